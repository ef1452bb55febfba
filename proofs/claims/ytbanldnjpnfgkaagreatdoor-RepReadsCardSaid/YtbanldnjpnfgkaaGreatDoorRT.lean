/-
  Part of the proof of a statement of this seat: walks of its functions and the closed run; no condition but those written in each theorem.
-/
import Derived.Test.YtbanldnjpnfgkaaGreatDoorKS
import Derived.Test.YtbanldnjpnfgkaaGreatDoorKA
import Derived.Test.YtbanldnjpnfgkaaGreatDoorQB
import Derived.Test.YtbanldnjpnfgkaaGreatDoorKU
namespace Go.Proofs.YtbanldnjpnfgkaaGreatDoor.Wk
set_option maxRecDepth 100000
open Go.RowKit Go.VmK Go.NumPure Go.Shelf
def dr : List UInt8 := [0, 0, 0, 1, 0, 0, 0, 0, 0, 0, 0, 1]
def lN (n : List UInt8) : UInt8 := UInt8.ofNat n.length
def lD (n : List UInt8) : UInt8 := UInt8.ofNat (13 + n.length)
/-- the delta that is told, as a text -/
def dl (n : List UInt8) : List UInt8 := 1 :: lN n :: (n ++ [0, 7, 1, 0, 0, 0, 2, 1, 0, 1, 0])
theorem dl_len (n : List UInt8) : (dl n).length = 13 + n.length := by simp only [dl, List.length_cons, List.length_append, List.length_nil]; omega
theorem lN_val {n : List UInt8} (h : n.length ≤ 40) : (lN n).toNat = n.length := by unfold lN; rw [UInt8.toNat_ofNat']; omega
theorem lD_val {n : List UInt8} (h : n.length ≤ 40) : (lD n).toNat = 13 + n.length := by unfold lD; rw [UInt8.toNat_ofNat']; omega
theorem and127 {m : Nat} (h : m < 128) : intOp2 .and .u8 (Int.ofNat m) .u8 127 = some (.int .u8 (Int.ofNat m)) := by
  have e : Nat.ble m 255 = true := Nat.ble_eq ▸ (by omega : m ≤ 255)
  have l : Nat.land m 127 = m := (by decide : ∀ m < 128, Nat.land m 127 = m) m h
  show bitN Nat.land .and .u8 m 127 = _
  unfold bitN
  rw [show maxNat .u8 = 255 from rfl, e]
  show some (AV.int .u8 (Int.ofNat (Nat.land m 127))) = _
  rw [l]
theorem and128 {m : Nat} (h : m < 128) : intOp2 .and .u8 (Int.ofNat m) .u8 128 = some (.int .u8 0) := by
  have e : Nat.ble m 255 = true := Nat.ble_eq ▸ (by omega : m ≤ 255)
  have l : Nat.land m 128 = 0 := (by decide : ∀ m < 128, Nat.land m 128 = 0) m h
  show bitN Nat.land .and .u8 m 128 = _
  unfold bitN
  rw [show maxNat .u8 = 255 from rfl, e]
  show some (AV.int .u8 (Int.ofNat (Nat.land m 128))) = _
  rw [l]; rfl
theorem or0 {m : Nat} (h : m < 128) : intOp2 .or .u64 0 .u64 (Int.ofNat m) = some (.int .u64 (Int.ofNat m)) := by
  have e : Nat.ble m 18446744073709551615 = true := Nat.ble_eq ▸ (by omega : m ≤ 18446744073709551615)
  have l : Nat.lor 0 m = m := Nat.zero_or m
  show bitN Nat.lor .or .u64 0 m = _
  unfold bitN
  rw [show maxNat .u64 = 18446744073709551615 from rfl, e]
  show some (AV.int .u64 (Int.ofNat (Nat.lor 0 m))) = _
  rw [l]
theorem shl0 {m : Nat} (h : m < 128) : intOp2 .shl .u64 (Int.ofNat m) .i64 0 = some (.int .u64 (Int.ofNat m)) := by
  have e : Nat.ble m 18446744073709551615 = true := Nat.ble_eq ▸ (by omega : m ≤ 18446744073709551615)
  have e1 : Int.mul (Int.ofNat m) (.ofNat 1) = Int.ofNat m := Int.mul_one _
  show some (AV.int .u64 (wrapIf (leNat 18446744073709551615 (Int.mul (Int.ofNat m) (.ofNat 1))) .u64 (Int.mul (Int.ofNat m) (.ofNat 1)))) = _
  rw [e1]
  show some (AV.int .u64 (wrapIf (Nat.ble m 18446744073709551615) .u64 (Int.ofNat m))) = _
  rw [e]; rfl
/-- keys stand behind the first of all, and ahead of what no key begins with -/
def sf (e : List UInt8) (c : UInt8) (x : List UInt8) : List UInt8 := 3 :: (esc e ++ 0 :: c :: x)
theorem sf_lt (e : List UInt8) {c d : UInt8} {x y : List UInt8} (h : ltL (c :: x) (d :: y) = true) : ltL (sf e c x) (sf e d y) = true := by
  have := ltL_pre (3 :: (esc e ++ [0])) (c :: x) (d :: y)
  simp only [List.cons_append, List.append_assoc, List.nil_append] at this
  exact this.trans h
theorem okc_lt (c d : UInt8) (hc : c < 255) : ∀ (a b x y : List UInt8), ltB a b = true → ltB (esc a ++ 0 :: c :: x) (esc b ++ 0 :: d :: y) = true
  | [], [], _, _, h => by simp [ltB] at h
  | [], b :: m, x, y, _ => by
    by_cases hb : b = 0
    · subst hb; simp [esc, ltB, hc]
    · have : (0 : UInt8) < b := by
        have : b.toNat ≠ 0 := fun e => hb (UInt8.toNat_inj.1 e)
        show (0 : UInt8).toNat < b.toNat
        have : (0 : UInt8).toNat = 0 := rfl
        omega
      simp [esc, hb, ltB, this]
  | _ :: _, [], _, _, h => by simp [ltB] at h
  | a :: l, b :: m, x, y, h => by
    unfold ltB at h
    by_cases hab : a < b
    · have hb : b ≠ 0 := fun e => by subst e; exact absurd hab (by simp)
      by_cases ha : a = 0
      · subst ha; simp [esc, hb, ltB, hab]
      · simp [esc, ha, hb, ltB, hab]
    · rw [if_neg hab] at h
      by_cases he : a = b
      · subst he
        rw [if_pos rfl] at h
        have ih := okc_lt c d hc l m x y h
        by_cases ha : a = 0
        · subst ha; simpa [esc, ltB] using ih
        · simpa [esc, ha, ltB] using ih
      · rw [if_neg he] at h; cases h
theorem sf_lt2 {e r : List UInt8} (c d : UInt8) (x y : List UInt8) (hc : c < 255) (h : ltL e r = true) : ltL (sf e c x) (sf r d y) = true := by
  rw [← ltB_eq] at h
  have := okc_lt c d hc e r x y h
  rw [ltB_eq] at this
  exact (ltL_pre [3] _ _).trans this
theorem sf_cat (a e : List UInt8) (c : UInt8) (x y : List UInt8) : txt (key a (sf e c x)) ++ txt y = txt (key a (sf e c (x ++ y))) := by
  rw [key_cat]; simp [sf]
theorem sC_cat (a e : List UInt8) (c : UInt8) : txt (key a (sC e)) ++ txt [c] = txt (key a (sf e c [])) := by
  rw [key_cat]; simp [sf, sC]
theorem cmp_lt {a b : List UInt8} (h : ltL a b = true) (w : World) : Calls Tryz.prog 387 #[.string (txt a), .string (txt b)] w fun e w' => e = .returned (.int .i64 (-1)) ∧ Stands w w' := by
  refine (cmp_any (txt a) (txt b) w).mono ?_
  rintro e w' ⟨rfl, rfl⟩
  refine ⟨?_, st_refl _⟩
  rw [txt_list, txt_list, h]; rfl
theorem cmp_gt {a b : List UInt8} (h : ltL b a = true) (w : World) : Calls Tryz.prog 387 #[.string (txt a), .string (txt b)] w fun e w' => e = .returned (.int .i64 1) ∧ Stands w w' := by
  refine (cmp_any (txt a) (txt b) w).mono ?_
  rintro e w' ⟨rfl, rfl⟩
  refine ⟨?_, st_refl _⟩
  rw [txt_list, txt_list, h, ltL_asym h]; rfl
theorem cmp_eq {a : List UInt8} (w : World) : Calls Tryz.prog 387 #[.string (txt a), .string (txt a)] w fun e w' => e = .returned (.int .i64 0) ∧ Stands w w' := by
  refine (cmp_any (txt a) (txt a) w).mono ?_
  rintro e w' ⟨rfl, rfl⟩
  refine ⟨?_, st_refl _⟩
  rw [txt_list, ltL_irr]; rfl
theorem ac {α : Type} {p : α → Prop} {a : α} {l : List α} (h : p a) (t : ∀ x ∈ l, p x) : ∀ x ∈ a :: l, p x := List.forall_mem_cons.2 ⟨h, t⟩
theorem an {α : Type} {p : α → Prop} : ∀ x ∈ ([] : List α), p x := fun _ h => by cases h
theorem sz0 : (⟨([] : List UInt8).toArray⟩ : ByteArray).size = 0 := rfl
theorem szn (l : List UInt8) (k : Nat) (h : l.length = k) : (⟨l.toArray⟩ : ByteArray).size = k := h
theorem dle {a k m : Nat} (h : a ≤ k) (g : k ≤ m) : true = decide (Int.ofNat a ≤ Int.ofNat m) := (decide_eq_true (Int.ofNat_le.2 (Nat.le_trans h g))).symm
theorem dgt {a k m : Nat} (h : a ≤ k) (g : k ≤ m) : false = decide (Int.ofNat m < Int.ofNat a) := (decide_eq_false (by have := Nat.le_trans h g; simp only [Int.ofNat_eq_natCast]; omega)).symm
theorem dge {a k m : Nat} (h : k ≤ a) (g : m ≤ k) : true = decide (Int.ofNat m ≤ Int.ofNat a) := (decide_eq_true (Int.ofNat_le.2 (Nat.le_trans g h))).symm
theorem dlt {a k m : Nat} (h : k ≤ a) (g : m ≤ k) : false = decide (Int.ofNat a < Int.ofNat m) := (decide_eq_false (by have := Nat.le_trans g h; simp only [Int.ofNat_eq_natCast]; omega)).symm
theorem pw3 {a b c : List UInt8} (h1 : ltL a b = true) (h2 : ltL a c = true) (h3 : ltL b c = true) : [a, b, c].Pairwise fun x y => ltL x y = true := by
  simp [List.pairwise_cons, h1, h2, h3]
theorem pw2 {a b : List UInt8} (h1 : ltL a b = true) : [a, b].Pairwise fun x y => ltL x y = true := by
  simp [List.pairwise_cons, h1]
theorem pm1 (a b c : List UInt8) : [a, c, b].Perm [a, b, c] := (List.Perm.swap b c []).cons a
theorem pm2 (a b c : List UInt8) : [b, a, c].Perm [a, b, c] := List.Perm.swap a b [c]
theorem pm3 (a b c : List UInt8) : [b, c, a].Perm [a, b, c] := ((List.Perm.swap a c []).cons b).trans (pm2 a b c)
theorem pm4 (a b c : List UInt8) : [c, a, b].Perm [a, b, c] := (List.Perm.swap a c [b]).trans (pm1 a b c)
theorem pm5 (a b c : List UInt8) : [c, b, a].Perm [a, b, c] := ((List.Perm.swap a b []).cons c).trans (pm4 a b c)
theorem lo_key (n s : List UInt8) (h : 1 ≤ n.length) : ltL [111, 0, 1] (111 :: (ok n ++ s)) = true := by
  refine (ltL_pre [111] [0, 1] (ok n ++ s)).trans ?_
  have := ok_ltL [] n [] s (by cases n with | nil => simp at h | cons a l => rfl)
  simpa [ok, esc] using this
theorem hi_key (s : List UInt8) : ltL (111 :: s) [112] = true := rfl
theorem lo22 (n : List UInt8) (h : 1 ≤ n.length) : ltL [111, 0, 1] (111 :: (esc n ++ [0, 2])) = true := by
  refine (ltL_pre [111] [0, 1] (esc n ++ [0, 2])).trans ?_
  have := okc_lt 1 2 (by decide) [] n [] [] (by cases n with | nil => simp at h | cons a l => rfl)
  rw [ltB_eq] at this
  simpa [esc] using this
theorem key22 (n s : List UInt8) : ltL (key n s) (111 :: (esc n ++ [0, 2])) = true := by
  have := ltL_pre (111 :: (esc n ++ [0])) (1 :: s) [2]
  simp only [List.cons_append, List.append_assoc, List.nil_append] at this
  simp only [key, ok, List.append_assoc, List.cons_append, List.nil_append]
  exact this.trans rfl
theorem ltS {a b : List UInt8} {c : Bool} (h : ltL a b = c) : ltL (txt a).data.toList (txt b).data.toList = c := h
/-- the sizes that are let in -/
structure Sc (n k : List UInt8) : Prop where
  n1 : 1 ≤ n.length
  n2 : n.length ≤ 40
  k1 : 1 ≤ k.length
  k2 : k.length ≤ 60
theorem tx_one {n : List UInt8} (h : n.length ≤ 40) : tx [txt n] = lN n :: n := by
  have e : vr n.length = [n.length] := vr_low (by omega)
  have e2 : vb n.length = [lN n] := by simp [vb, e, lN]
  show vb (txt n).size ++ (txt n).data.toList ++ [] = _
  rw [txt_size, e2, txt_list]
  simp
section
variable {n k : List UInt8}
theorem z0 (hs : Sc n k) : 1 ≤ (txt n).size ∧ (txt n).size ≤ 40 := by
  obtain ⟨h1, h2, h3, h4⟩ := hs
  have a1 := ok_size n
  have a2 := ok_size k
  have c1 := esc_len n
  have c2 := esc_len k
  simp only [txt_size]
  omega
theorem z1 (hs : Sc n k) : 1 ≤ (txt k).size ∧ (txt k).size ≤ 60 := by
  obtain ⟨h1, h2, h3, h4⟩ := hs
  have a1 := ok_size n
  have a2 := ok_size k
  have c1 := esc_len n
  have c2 := esc_len k
  simp only [txt_size]
  omega
theorem z10 (hs : Sc n k) : 2 ≤ (txt (ok n)).size ∧ (txt (ok n)).size ≤ 82 := by
  obtain ⟨h1, h2, h3, h4⟩ := hs
  have a1 := ok_size n
  have a2 := ok_size k
  have c1 := esc_len n
  have c2 := esc_len k
  simp only [txt_size]
  omega
theorem z11 (hs : Sc n k) : 2 ≤ (txt (ok k)).size ∧ (txt (ok k)).size ≤ 122 := by
  obtain ⟨h1, h2, h3, h4⟩ := hs
  have a1 := ok_size n
  have a2 := ok_size k
  have c1 := esc_len n
  have c2 := esc_len k
  simp only [txt_size]
  omega
theorem z20 (hs : Sc n k) : 3 ≤ (txt (111 :: ok n)).size ∧ (txt (111 :: ok n)).size ≤ 83 := by
  obtain ⟨h1, h2, h3, h4⟩ := hs
  have a1 := ok_size n
  have a2 := ok_size k
  have c1 := esc_len n
  have c2 := esc_len k
  simp only [txt_size, List.length_cons]
  omega
theorem z21 (hs : Sc n k) : 2 ≤ (txt (111 :: (esc n ++ [0]))).size ∧ (txt (111 :: (esc n ++ [0]))).size ≤ 83 := by
  obtain ⟨h1, h2, h3, h4⟩ := hs
  have a1 := ok_size n
  have a2 := ok_size k
  have c1 := esc_len n
  have c2 := esc_len k
  simp only [txt_size, List.length_cons, List.length_append, List.length_nil]
  omega
theorem z22 (hs : Sc n k) : 3 ≤ (txt (111 :: (esc n ++ [0, 2]))).size ∧ (txt (111 :: (esc n ++ [0, 2]))).size ≤ 84 := by
  obtain ⟨h1, h2, h3, h4⟩ := hs
  have a1 := ok_size n
  have a2 := ok_size k
  have c1 := esc_len n
  have c2 := esc_len k
  simp only [txt_size, List.length_cons, List.length_append, List.length_nil]
  omega
theorem z30 (hs : Sc n k) : 4 ≤ (txt (key n [0])).size ∧ (txt (key n [0])).size ≤ 84 := by
  obtain ⟨h1, h2, h3, h4⟩ := hs
  have a1 := ok_size n
  have a2 := ok_size k
  have c1 := esc_len n
  have c2 := esc_len k
  simp only [txt_size, key, List.length_cons, List.length_append, List.length_nil]
  omega
theorem z31 (hs : Sc n k) : 4 ≤ (txt (key n [1])).size ∧ (txt (key n [1])).size ≤ 84 := by
  obtain ⟨h1, h2, h3, h4⟩ := hs
  have a1 := ok_size n
  have a2 := ok_size k
  have c1 := esc_len n
  have c2 := esc_len k
  simp only [txt_size, key, List.length_cons, List.length_append, List.length_nil]
  omega
theorem z32 (hs : Sc n k) : 4 ≤ (txt (key n [2])).size ∧ (txt (key n [2])).size ≤ 84 := by
  obtain ⟨h1, h2, h3, h4⟩ := hs
  have a1 := ok_size n
  have a2 := ok_size k
  have c1 := esc_len n
  have c2 := esc_len k
  simp only [txt_size, key, List.length_cons, List.length_append, List.length_nil]
  omega
theorem z33 (hs : Sc n k) : 4 ≤ (txt (key n [3])).size ∧ (txt (key n [3])).size ≤ 84 := by
  obtain ⟨h1, h2, h3, h4⟩ := hs
  have a1 := ok_size n
  have a2 := ok_size k
  have c1 := esc_len n
  have c2 := esc_len k
  simp only [txt_size, key, List.length_cons, List.length_append, List.length_nil]
  omega
theorem z50 (hs : Sc n k) : 4 ≤ (txt (key n (sf k 1 []))).size ∧ (txt (key n (sf k 1 []))).size ≤ 230 := by
  obtain ⟨h1, h2, h3, h4⟩ := hs
  have a1 := ok_size n
  have a2 := ok_size k
  have c1 := esc_len n
  have c2 := esc_len k
  simp only [txt_size, key, sf, List.length_cons, List.length_append, List.length_nil]
  omega
theorem z52 (hs : Sc n k) : 4 ≤ (txt (key n (sf k 2 []))).size ∧ (txt (key n (sf k 2 []))).size ≤ 230 := by
  obtain ⟨h1, h2, h3, h4⟩ := hs
  have a1 := ok_size n
  have a2 := ok_size k
  have c1 := esc_len n
  have c2 := esc_len k
  simp only [txt_size, key, sf, List.length_cons, List.length_append, List.length_nil]
  omega
theorem z53 (hs : Sc n k) : 4 ≤ (txt (key n (sC k))).size ∧ (txt (key n (sC k))).size ≤ 230 := by
  obtain ⟨h1, h2, h3, h4⟩ := hs
  have a1 := ok_size n
  have a2 := ok_size k
  have c1 := esc_len n
  have c2 := esc_len k
  simp only [txt_size, key, sC, List.length_cons, List.length_append, List.length_nil]
  omega
theorem z60 (hs : Sc n k) : 4 ≤ (txt (key n (sf k 1 dr))).size ∧ (txt (key n (sf k 1 dr))).size ≤ 230 := by
  obtain ⟨h1, h2, h3, h4⟩ := hs
  have a1 := ok_size n
  have a2 := ok_size k
  have c1 := esc_len n
  have c2 := esc_len k
  simp only [txt_size, key, sf, dr, List.length_cons, List.length_append, List.length_nil]
  omega
theorem z100 (hs : Sc n k) : 3 ≤ (txt (ok n ++ sf k 1 dr)).size ∧ (txt (ok n ++ sf k 1 dr)).size ≤ 300 := by
  obtain ⟨h1, h2, h3, h4⟩ := hs
  have a1 := ok_size n
  have a2 := ok_size k
  have c1 := esc_len n
  have c2 := esc_len k
  simp only [txt_size, sf, dr, List.length_cons, List.length_append, List.length_nil]
  omega
theorem z101 (hs : Sc n k) : 3 ≤ (txt (ok n ++ [0])).size ∧ (txt (ok n ++ [0])).size ≤ 84 := by
  obtain ⟨h1, h2, h3, h4⟩ := hs
  have a1 := ok_size n
  have a2 := ok_size k
  have c1 := esc_len n
  have c2 := esc_len k
  simp only [txt_size, List.length_cons, List.length_append, List.length_nil]
  omega
theorem z110 (hs : Sc n k) : 3 ≤ (txt (sf k 1 dr)).size ∧ (txt (sf k 1 dr)).size ≤ 200 := by
  obtain ⟨h1, h2, h3, h4⟩ := hs
  have a1 := ok_size n
  have a2 := ok_size k
  have c1 := esc_len n
  have c2 := esc_len k
  simp only [txt_size, sf, dr, List.length_cons, List.length_append, List.length_nil]
  omega
theorem z120 (hs : Sc n k) : 2 ≤ (txt (esc k ++ 0 :: 1 :: dr)).size ∧ (txt (esc k ++ 0 :: 1 :: dr)).size ≤ 200 := by
  obtain ⟨h1, h2, h3, h4⟩ := hs
  have a1 := ok_size n
  have a2 := ok_size k
  have c1 := esc_len n
  have c2 := esc_len k
  simp only [txt_size, dr, List.length_cons, List.length_append, List.length_nil]
  omega
theorem z104 (hs : Sc n k) : 2 ≤ (txt (lN n :: n)).size ∧ (txt (lN n :: n)).size ≤ 41 := by
  obtain ⟨h1, h2, h3, h4⟩ := hs
  have a1 := ok_size n
  have a2 := ok_size k
  have c1 := esc_len n
  have c2 := esc_len k
  simp only [txt_size, List.length_cons]
  omega
theorem z105 (hs : Sc n k) : 3 ≤ (txt (1 :: lN n :: n)).size ∧ (txt (1 :: lN n :: n)).size ≤ 42 := by
  obtain ⟨h1, h2, h3, h4⟩ := hs
  have a1 := ok_size n
  have a2 := ok_size k
  have c1 := esc_len n
  have c2 := esc_len k
  simp only [txt_size, List.length_cons]
  omega
theorem z106 (hs : Sc n k) : 4 ≤ (txt (1 :: lN n :: (n ++ [0]))).size ∧ (txt (1 :: lN n :: (n ++ [0]))).size ≤ 43 := by
  obtain ⟨h1, h2, h3, h4⟩ := hs
  have a1 := ok_size n
  have a2 := ok_size k
  have c1 := esc_len n
  have c2 := esc_len k
  simp only [txt_size, List.length_cons, List.length_append, List.length_nil]
  omega
theorem z161 (hs : Sc n k) : 21 ≤ (txt (1 :: 0 :: 0 :: 4 :: 2 :: 0 :: 0 :: 0 :: 0 :: lD n :: (dl n ++ [0, 0, 1, 0, 1, 0]))).size ∧ (txt (1 :: 0 :: 0 :: 4 :: 2 :: 0 :: 0 :: 0 :: 0 :: lD n :: (dl n ++ [0, 0, 1, 0, 1, 0]))).size ≤ 70 := by
  obtain ⟨h1, h2, h3, h4⟩ := hs
  have a1 := ok_size n
  have a2 := ok_size k
  have c1 := esc_len n
  have c2 := esc_len k
  simp only [txt_size, dl, List.length_cons, List.length_append, List.length_nil]
  omega
theorem z162 (hs : Sc n k) : 21 ≤ (txt (0 :: 0 :: 4 :: 2 :: 0 :: 0 :: 0 :: 0 :: lD n :: (dl n ++ [0, 0, 1, 0, 1, 0]))).size ∧ (txt (0 :: 0 :: 4 :: 2 :: 0 :: 0 :: 0 :: 0 :: lD n :: (dl n ++ [0, 0, 1, 0, 1, 0]))).size ≤ 70 := by
  obtain ⟨h1, h2, h3, h4⟩ := hs
  have a1 := ok_size n
  have a2 := ok_size k
  have c1 := esc_len n
  have c2 := esc_len k
  simp only [txt_size, dl, List.length_cons, List.length_append, List.length_nil]
  omega
theorem z163 (hs : Sc n k) : 21 ≤ (txt (0 :: 4 :: 2 :: 0 :: 0 :: 0 :: 0 :: lD n :: (dl n ++ [0, 0, 1, 0, 1, 0]))).size ∧ (txt (0 :: 4 :: 2 :: 0 :: 0 :: 0 :: 0 :: lD n :: (dl n ++ [0, 0, 1, 0, 1, 0]))).size ≤ 70 := by
  obtain ⟨h1, h2, h3, h4⟩ := hs
  have a1 := ok_size n
  have a2 := ok_size k
  have c1 := esc_len n
  have c2 := esc_len k
  simp only [txt_size, dl, List.length_cons, List.length_append, List.length_nil]
  omega
theorem z164 (hs : Sc n k) : 21 ≤ (txt (4 :: 2 :: 0 :: 0 :: 0 :: 0 :: lD n :: (dl n ++ [0, 0, 1, 0, 1, 0]))).size ∧ (txt (4 :: 2 :: 0 :: 0 :: 0 :: 0 :: lD n :: (dl n ++ [0, 0, 1, 0, 1, 0]))).size ≤ 70 := by
  obtain ⟨h1, h2, h3, h4⟩ := hs
  have a1 := ok_size n
  have a2 := ok_size k
  have c1 := esc_len n
  have c2 := esc_len k
  simp only [txt_size, dl, List.length_cons, List.length_append, List.length_nil]
  omega
theorem z165 (hs : Sc n k) : 21 ≤ (txt (2 :: 0 :: 0 :: 0 :: 0 :: lD n :: (dl n ++ [0, 0, 1, 0, 1, 0]))).size ∧ (txt (2 :: 0 :: 0 :: 0 :: 0 :: lD n :: (dl n ++ [0, 0, 1, 0, 1, 0]))).size ≤ 70 := by
  obtain ⟨h1, h2, h3, h4⟩ := hs
  have a1 := ok_size n
  have a2 := ok_size k
  have c1 := esc_len n
  have c2 := esc_len k
  simp only [txt_size, dl, List.length_cons, List.length_append, List.length_nil]
  omega
theorem z166 (hs : Sc n k) : 21 ≤ (txt (0 :: 0 :: 0 :: 0 :: lD n :: (dl n ++ [0, 0, 1, 0, 1, 0]))).size ∧ (txt (0 :: 0 :: 0 :: 0 :: lD n :: (dl n ++ [0, 0, 1, 0, 1, 0]))).size ≤ 70 := by
  obtain ⟨h1, h2, h3, h4⟩ := hs
  have a1 := ok_size n
  have a2 := ok_size k
  have c1 := esc_len n
  have c2 := esc_len k
  simp only [txt_size, dl, List.length_cons, List.length_append, List.length_nil]
  omega
theorem z167 (hs : Sc n k) : 21 ≤ (txt (0 :: 0 :: 0 :: lD n :: (dl n ++ [0, 0, 1, 0, 1, 0]))).size ∧ (txt (0 :: 0 :: 0 :: lD n :: (dl n ++ [0, 0, 1, 0, 1, 0]))).size ≤ 70 := by
  obtain ⟨h1, h2, h3, h4⟩ := hs
  have a1 := ok_size n
  have a2 := ok_size k
  have c1 := esc_len n
  have c2 := esc_len k
  simp only [txt_size, dl, List.length_cons, List.length_append, List.length_nil]
  omega
theorem z168 (hs : Sc n k) : 21 ≤ (txt (0 :: 0 :: lD n :: (dl n ++ [0, 0, 1, 0, 1, 0]))).size ∧ (txt (0 :: 0 :: lD n :: (dl n ++ [0, 0, 1, 0, 1, 0]))).size ≤ 70 := by
  obtain ⟨h1, h2, h3, h4⟩ := hs
  have a1 := ok_size n
  have a2 := ok_size k
  have c1 := esc_len n
  have c2 := esc_len k
  simp only [txt_size, dl, List.length_cons, List.length_append, List.length_nil]
  omega
theorem z169 (hs : Sc n k) : 21 ≤ (txt (0 :: lD n :: (dl n ++ [0, 0, 1, 0, 1, 0]))).size ∧ (txt (0 :: lD n :: (dl n ++ [0, 0, 1, 0, 1, 0]))).size ≤ 70 := by
  obtain ⟨h1, h2, h3, h4⟩ := hs
  have a1 := ok_size n
  have a2 := ok_size k
  have c1 := esc_len n
  have c2 := esc_len k
  simp only [txt_size, dl, List.length_cons, List.length_append, List.length_nil]
  omega
theorem z170 (hs : Sc n k) : 21 ≤ (txt (lD n :: (dl n ++ [0, 0, 1, 0, 1, 0]))).size ∧ (txt (lD n :: (dl n ++ [0, 0, 1, 0, 1, 0]))).size ≤ 70 := by
  obtain ⟨h1, h2, h3, h4⟩ := hs
  have a1 := ok_size n
  have a2 := ok_size k
  have c1 := esc_len n
  have c2 := esc_len k
  simp only [txt_size, dl, List.length_cons, List.length_append, List.length_nil]
  omega
theorem z171 (hs : Sc n k) : 20 ≤ (txt (dl n ++ [0, 0, 1, 0, 1, 0])).size ∧ (txt (dl n ++ [0, 0, 1, 0, 1, 0])).size ≤ 60 := by
  obtain ⟨h1, h2, h3, h4⟩ := hs
  have a1 := ok_size n
  have a2 := ok_size k
  have c1 := esc_len n
  have c2 := esc_len k
  simp only [txt_size, dl, List.length_cons, List.length_append, List.length_nil]
  omega
theorem z172 (hs : Sc n k) : 14 ≤ (txt (dl n)).size ∧ (txt (dl n)).size ≤ 53 := by
  obtain ⟨h1, h2, h3, h4⟩ := hs
  have a1 := ok_size n
  have a2 := ok_size k
  have c1 := esc_len n
  have c2 := esc_len k
  simp only [txt_size, dl, List.length_cons, List.length_append, List.length_nil]
  omega
theorem z173 (hs : Sc n k) : 13 ≤ (txt (lN n :: (n ++ [0, 7, 1, 0, 0, 0, 2, 1, 0, 1, 0]))).size ∧ (txt (lN n :: (n ++ [0, 7, 1, 0, 0, 0, 2, 1, 0, 1, 0]))).size ≤ 52 := by
  obtain ⟨h1, h2, h3, h4⟩ := hs
  have a1 := ok_size n
  have a2 := ok_size k
  have c1 := esc_len n
  have c2 := esc_len k
  simp only [txt_size, List.length_cons, List.length_append, List.length_nil]
  omega
theorem z174 (hs : Sc n k) : 12 ≤ (txt (n ++ [0, 7, 1, 0, 0, 0, 2, 1, 0, 1, 0])).size ∧ (txt (n ++ [0, 7, 1, 0, 0, 0, 2, 1, 0, 1, 0])).size ≤ 51 := by
  obtain ⟨h1, h2, h3, h4⟩ := hs
  have a1 := ok_size n
  have a2 := ok_size k
  have c1 := esc_len n
  have c2 := esc_len k
  simp only [txt_size, List.length_cons, List.length_append, List.length_nil]
  omega
theorem z107 (hs : Sc n k) : 12 ≤ (txt (1 :: lN n :: (n ++ [0, 7, 1, 0, 0, 0, 2, 1, 0]))).size ∧ (txt (1 :: lN n :: (n ++ [0, 7, 1, 0, 0, 0, 2, 1, 0]))).size ≤ 51 := by
  obtain ⟨h1, h2, h3, h4⟩ := hs
  have a1 := ok_size n
  have a2 := ok_size k
  have c1 := esc_len n
  have c2 := esc_len k
  simp only [txt_size, List.length_cons, List.length_append, List.length_nil]
  omega
end
end Go.Proofs.YtbanldnjpnfgkaaGreatDoor.Wk
