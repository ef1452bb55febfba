/-
  Part of the proof of a statement of this seat: walks of its functions and the closed run; no condition but those written in each theorem.
-/
import Derived.Test.YtjjhphjbmllhhaaGreatDoorPEq
import Derived.Lib.ConvBytes
namespace Go.Proofs.YtjjhphjbmllhhaaGreatDoor.Wk
set_option maxRecDepth 100000
open Go.RowKit Go.VmK Go.NumPure
theorem stands_cell {w w' : World} (hg : Stands w w') {b o : Nat} {v : Value} (h : w.cell? ⟨b, o, none⟩ = some v) : w'.cell? ⟨b, o, none⟩ = some v := by
  have hlt : b < w.heap.size := by
    cases hq : w.heap[b]? with
    | none => simp [World.cell?, hq] at h
    | some o => exact (Array.getElem?_eq_some_iff.1 hq).1
  unfold World.cell? at h ⊢
  rw [hg.blocks b hlt]
  exact h
theorem stands_tr {a b c : World} (h : Stands a b) (g : Stands b c) : Stands a c :=
  ⟨g.os.trans h.os, g.output.trans h.output, Nat.le_trans h.size g.size, fun i hi => (g.blocks i (Nat.lt_of_lt_of_le hi h.size)).trans (h.blocks i hi)⟩
/-- a cursor that lies in a block -/
structure Lies (w : World) (b : Nat) (n l h x : ByteArray) (m : Int) (d : Bool) : Prop where
  c0 : w.cell? ⟨b, 0, none⟩ = some (.string n)
  c1 : w.cell? ⟨b, 1, none⟩ = some (.string l)
  c2 : w.cell? ⟨b, 2, none⟩ = some (.string h)
  c3 : w.cell? ⟨b, 3, none⟩ = some (.string x)
  c4 : w.cell? ⟨b, 4, none⟩ = some (.int .i64 m)
  c5 : w.cell? ⟨b, 5, none⟩ = some (.bool d)
theorem Lies.stands {w w' : World} {b : Nat} {n l h x : ByteArray} {m : Int} {d : Bool} (g : Lies w b n l h x m d) (hs : Stands w w') : Lies w' b n l h x m d :=
  ⟨stands_cell hs g.c0, stands_cell hs g.c1, stands_cell hs g.c2, stands_cell hs g.c3, stands_cell hs g.c4, stands_cell hs g.c5⟩
theorem lies_new (w : World) (n l h x : ByteArray) (m : Int) (d : Bool) : Lies (w.alloc (.cells #[.string n, .string l, .string h, .string x, .int .i64 m, .bool d] 23)) w.heap.size n l h x m d :=
  ⟨cell_new _ _ _ _ _ rfl, cell_new _ _ _ _ _ rfl, cell_new _ _ _ _ _ rfl, cell_new _ _ _ _ _ rfl, cell_new _ _ _ _ _ rfl, cell_new _ _ _ _ _ rfl⟩
set_option maxHeartbeats 3200000 in
theorem law_main (halive : ∀ w : World, Calls Tryz.prog 5 #[] w fun e w' => e = .returned (.bool true) ∧ Stands w w')
    {n l h x : ByteArray} {m : Int} (hs : Small n l h x m) (d : Bool) (k : Nat) (hk : k ≤ 9223372036854775807) (b : Int) (w : World) :
    Calls Tryz.prog 3 #[.agg #[.string n, .string l, .string h, .string x, .int .i64 m, .bool d], .int .i64 k, .int .i64 b] w fun e w' => e = .returned (.bool true) ∧ Stands w w' := by
  have hsm : (decide (n.size ≤ 300) && (decide (l.size ≤ 300) && (decide (h.size ≤ 300) && decide (x.size ≤ 300)))) = true := by simp [hs.n, hs.l, hs.h, hs.x]
  have hsm := Lib.hid hsm
  have L0 := Lib.hid (lies_new w n l h x m d)
  go_enter Tryz.func3, Tryz.ntmps3
  go_wp2_with fail
  refine (small_any n l h x m d _).mono ?_
  rw [hsm.out]
  rintro e w1 ⟨rfl, g1⟩
  have g1 := stands_of_grown g1
  have L1 := L0.out.stands g1
  obtain ⟨a0, a1, a2, a3, a4, a5⟩ := L1
  go_wp2_with fail
  refine (put_any hs d _).mono ?_
  rintro e w2 ⟨rfl, g2⟩
  have L2 := (L0.out.stands g1).stands g2
  obtain ⟨b0, b1, b2, b3, b4, b5⟩ := L2
  clear a0 a1 a2 a3 a4 a5
  go_wp2_with fail
  refine (get_own hs d _).mono ?_
  rintro e w3 ⟨rfl, g3⟩
  have L3 := ((L0.out.stands g1).stands g2).stands g3
  obtain ⟨a0, a1, a2, a3, a4, a5⟩ := L3
  clear b0 b1 b2 b3 b4 b5
  unfold readAs
  have hlen := cur_len n l h x m [bit d] hs.n hs.l hs.h hs.x hs.lo hs.hi (by simp)
  have hpz : (sealed (txt (cur n l h x m [bit d]))).size = (cur n l h x m [bit d]).length + 4 := by rw [sealed_size, txt_size]
  generalize hS : sealed (txt (cur n l h x m [bit d])) = S at *
  replace hpz := Lib.hid hpz
  replace hS := Lib.hid hS
  have hk32 : w.heap.size < w3.heap.size := by have := g1.size; have := g2.size; have := g3.size; simp at *; omega
  have hz4 : ¬ S.size < 4 := by have := hpz.out; omega
  have hne : ∀ w1 : World, (Go.binOp .neq 23 (.agg #[.string n, .string l, .string h, .string x, .int .i64 m, .bool d]) (.agg #[.string n, .string l, .string h, .string x, .int .i64 m, .bool d])).run Tryz.prog w1 = .ok (.bool false) w1 := neq_self n l h x m d
  cases hv : validB n l h x m with
  | false =>
    have hv := Lib.hid hv
    rw [if_neg (by simp)]
    unfold zeroCur
    have st4 := stands_of_grown ((Grown.refl w3).alloc #[.string ⟨#[]⟩, .string ⟨#[]⟩, .string ⟨#[]⟩, .string ⟨#[]⟩, .int .i64 0, .bool false] 23)
    obtain ⟨b0, b1, b2, b3, b4, b5⟩ := (((L0.out.stands g1).stands g2).stands g3).stands st4
    go_wp2_with fail
    refine (valid_any n l h x m d _).mono ?_
    rw [hv.out]
    rintro e w5 ⟨rfl, g5⟩
    clear b0 b1 b2 b3 b4 b5 a0 a1 a2 a3 a4 a5
    have g5 := stands_of_grown g5
    have hst : Stands w w5 := by
      have s0 := stands_of_grown ((Grown.refl w).alloc #[.string n, .string l, .string h, .string x, .int .i64 m, .bool d] 23)
      exact stands_tr (stands_tr (stands_tr (stands_tr (stands_tr s0 g1) g2) g3) st4) g5
    obtain ⟨cap, w6, hcap, hcv, g6, hsz6, hrow⟩ := conv_row w5 S
    obtain ⟨i, hi⟩ : ∃ i, i = k % S.size := ⟨_, rfl⟩
    have hSpos : 0 < S.size := by have := hpz.out; omega
    have hiS : i < S.size := by rw [hi]; exact Nat.mod_lt _ hSpos
    have hmod : (k : Int) % (S.size : Int) = (i : Int) := by rw [hi]; rfl
    obtain ⟨B, hB, hB8⟩ : ∃ B : Nat, IntKind.u8.wrap b = (B : Int) ∧ B < 256 := ⟨(b % 256).toNat, by rw [wrap_u8]; omega, by omega⟩
    have hil : i < S.data.toList.length := hiS
    have hcell := hrow.cell i S.data.toList[i] (List.getElem?_eq_getElem hil)
    have hwarm := hrow.warm i hil
    generalize hcc : S.data.toList[i].toNat = c at hcell
    have hc8 : c < 256 := by rw [← hcc]; exact UInt8.toNat_lt _
    obtain ⟨X, hX⟩ : ∃ X, X = c ^^^ B := ⟨_, rfl⟩
    have hxor : bits .xor .u8 (c : Int) (B : Int) = (X : Int) := by rw [hX]; exact xor8 c B hc8 hB8
    have hx8 : X < 256 := by rw [hX]; exact Nat.xor_lt_two_pow (n := 8) hc8 hB8
    have g7 : Stands w5 (w6.setCell ⟨w5.heap.size, i, none⟩ (.int .u8 (X : Int))) := set_stands w6 _ i _ w5 (Nat.le_refl _) g6
    have r7 := set_row hrow i X hx8
    replace hcc := Lib.hid hcc
    replace hX := Lib.hid hX
    replace hi := Lib.hid hi
    replace hrow := Lib.hid hrow
    replace hil := Lib.hid hil
    replace r7 := Lib.hid r7
    have hS1 : wrap64 ((S.size : Int) - 1) = ((S.size - 1 : Nat) : Int) := by have := hpz.out; unfold wrap64; omega
    have hS2 : S.size - 1 ≤ S.size := by omega
    have hcb := back_row (cap := cap) r7.out
    have gw7 := stands_tr hst g7
    by_cases hB0 : B = 0
    · have hXc : UInt8.ofNat X = S.data.toList[i]'hil.out := by
        have : X = (S.data.toList[i]'hil.out).toNat := by rw [hX.out, hB0, Nat.xor_zero]; exact hcc.out.symm
        rw [this]; simp
      rw [hXc, chg_same S i hil.out] at hcb
      have hz : ((B : Int) == 0) = true := by rw [hB0]; rfl
      replace hB0 := Lib.hid hB0
      replace hXc := Lib.hid hXc
      go_wp2_with fail
      have hgo := get_own hs d (w6.setCell ⟨w5.heap.size, i, none⟩ (.int .u8 (X : Int)))
      rw [hS.out] at hgo
      unfold readAs zeroCur at hgo
      rw [hv.out] at hgo
      refine hgo.mono ?_
      clear hgo
      rintro e w8 ⟨rfl, g8⟩
      go_wp2_with fail
      have hsh := get_short hs (bit d) (w8.alloc (.cells #[.string ⟨#[]⟩, .string ⟨#[]⟩, .string ⟨#[]⟩, .string ⟨#[]⟩, .int .i64 0, .bool false] 23))
      rw [hS.out] at hsh
      unfold cut1 zeroCur at hsh
      refine hsh.mono ?_
      clear hsh
      rintro e w9 ⟨rfl, g9⟩
      go_wp2_with fail
      refine (halive _).mono ?_
      rintro e wa ⟨rfl, ga⟩
      go_wp2_with fail
      go_ret
      exact ⟨rfl, stands_tr (stands_tr (stands_tr (stands_tr (stands_tr gw7 g8) (stands_of_grown ((Grown.refl w8).alloc _ _))) g9) (stands_of_grown ((Grown.refl w9).alloc _ _))) ga⟩
    · have hsee := get_changed (txt (cur n l h x m [bit d])) (by rw [txt_size]; omega) i (UInt8.ofNat X) (by rw [hS.out]; exact hiS) (by
        rw [hS.out, byteAt_get S i hil.out, hcc.out]
        have : (UInt8.ofNat X).toNat = X := by simp; omega
        rw [this, hX.out]
        exact xor_ne hB0) (w6.setCell ⟨w5.heap.size, i, none⟩ (.int .u8 (X : Int)))
      rw [hS.out] at hsee
      have hz : ((B : Int) == 0) = false := by simp; exact_mod_cast hB0
      replace hB0 := Lib.hid hB0
      replace hsee := Lib.hid hsee
      go_wp2_with fail
      refine hsee.out.mono ?_
      rintro e w8 ⟨rfl, g8⟩
      unfold zeroCur
      go_wp2_with fail
      have M8 := Lib.hid (lies_new w8 ⟨#[]⟩ ⟨#[]⟩ ⟨#[]⟩ ⟨#[]⟩ 0 false)
      have hsh := get_short hs (bit d) (w8.alloc (.cells #[.string ⟨#[]⟩, .string ⟨#[]⟩, .string ⟨#[]⟩, .string ⟨#[]⟩, .int .i64 0, .bool false] 23))
      rw [hS.out] at hsh
      unfold cut1 zeroCur at hsh
      refine hsh.mono ?_
      clear hsh
      rintro e w9 ⟨rfl, g9⟩
      go_wp2_with fail
      have g10 := stands_of_grown ((Grown.refl w9).alloc #[.string ⟨#[]⟩, .string ⟨#[]⟩, .string ⟨#[]⟩, .string ⟨#[]⟩, .int .i64 0, .bool false] 23)
      refine (halive _).mono ?_
      rintro e wa ⟨rfl, ga⟩
      obtain ⟨b0, b1, b2, b3, b4, b5⟩ := ((M8.out.stands g9).stands g10).stands ga
      have hself : ∀ w1 : World, (Go.binOp .eql 23 (.agg #[.string ⟨#[]⟩, .string ⟨#[]⟩, .string ⟨#[]⟩, .string ⟨#[]⟩, .int .i64 0, .bool false]) (.agg #[.string ⟨#[]⟩, .string ⟨#[]⟩, .string ⟨#[]⟩, .string ⟨#[]⟩, .int .i64 0, .bool false])).run Tryz.prog w1 = .ok (.bool true) w1 := eql_self ⟨#[]⟩ ⟨#[]⟩ ⟨#[]⟩ ⟨#[]⟩ 0 false
      go_wp2_with fail
      go_ret
      exact ⟨rfl, stands_tr (stands_tr (stands_tr (stands_tr (stands_tr gw7 g8) (stands_of_grown ((Grown.refl w8).alloc _ _))) g9) g10) ga⟩
  | true =>
    have hv := Lib.hid hv
    have n40 : n.size ≤ 40 := by have := hv.out; unfold validB at this; simp at this; omega
    rw [if_pos rfl]
    have st4 := stands_of_grown ((Grown.refl w3).alloc #[.string n, .string l, .string h, .string x, .int .i64 m, .bool d] 23)
    have M4 := Lib.hid (lies_new w3 n l h x m d)
    obtain ⟨b0, b1, b2, b3, b4, b5⟩ := (((L0.out.stands g1).stands g2).stands g3).stands st4
    go_wp2_with fail
    refine (valid_any n l h x m d _).mono ?_
    rw [hv.out]
    rintro e w5 ⟨rfl, g5⟩
    clear b0 b1 b2 b3 b4 b5 a0 a1 a2 a3 a4 a5
    have g5 := stands_of_grown g5
    have hst : Stands w w5 := by
      have s0 := stands_of_grown ((Grown.refl w).alloc #[.string n, .string l, .string h, .string x, .int .i64 m, .bool d] 23)
      exact stands_tr (stands_tr (stands_tr (stands_tr (stands_tr s0 g1) g2) g3) st4) g5
    obtain ⟨b0, b1, b2, b3, b4, b5⟩ := ((((L0.out.stands g1).stands g2).stands g3).stands st4).stands g5
    obtain ⟨e0, e1, e2, e3, e4, e5⟩ := M4.out.stands g5
    obtain ⟨cap, w6, hcap, hcv, g6, hsz6, hrow⟩ := conv_row w5 S
    obtain ⟨i, hi⟩ : ∃ i, i = k % S.size := ⟨_, rfl⟩
    have hSpos : 0 < S.size := by have := hpz.out; omega
    have hiS : i < S.size := by rw [hi]; exact Nat.mod_lt _ hSpos
    have hmod : (k : Int) % (S.size : Int) = (i : Int) := by rw [hi]; rfl
    obtain ⟨B, hB, hB8⟩ : ∃ B : Nat, IntKind.u8.wrap b = (B : Int) ∧ B < 256 := ⟨(b % 256).toNat, by rw [wrap_u8]; omega, by omega⟩
    have hil : i < S.data.toList.length := hiS
    have hcell := hrow.cell i S.data.toList[i] (List.getElem?_eq_getElem hil)
    have hwarm := hrow.warm i hil
    generalize hcc : S.data.toList[i].toNat = c at hcell
    have hc8 : c < 256 := by rw [← hcc]; exact UInt8.toNat_lt _
    obtain ⟨X, hX⟩ : ∃ X, X = c ^^^ B := ⟨_, rfl⟩
    have hxor : bits .xor .u8 (c : Int) (B : Int) = (X : Int) := by rw [hX]; exact xor8 c B hc8 hB8
    have hx8 : X < 256 := by rw [hX]; exact Nat.xor_lt_two_pow (n := 8) hc8 hB8
    have g7 : Stands w5 (w6.setCell ⟨w5.heap.size, i, none⟩ (.int .u8 (X : Int))) := set_stands w6 _ i _ w5 (Nat.le_refl _) g6
    have r7 := set_row hrow i X hx8
    replace hcc := Lib.hid hcc
    replace hX := Lib.hid hX
    replace hi := Lib.hid hi
    replace hrow := Lib.hid hrow
    replace hil := Lib.hid hil
    replace r7 := Lib.hid r7
    have hS1 : wrap64 ((S.size : Int) - 1) = ((S.size - 1 : Nat) : Int) := by have := hpz.out; unfold wrap64; omega
    have hS2 : S.size - 1 ≤ S.size := by omega
    have hcb := back_row (cap := cap) r7.out
    have gw7 := stands_tr hst g7
    by_cases hB0 : B = 0
    · have hXc : UInt8.ofNat X = S.data.toList[i]'hil.out := by
        have : X = (S.data.toList[i]'hil.out).toNat := by rw [hX.out, hB0, Nat.xor_zero]; exact hcc.out.symm
        rw [this]; simp
      rw [hXc, chg_same S i hil.out] at hcb
      have hz : ((B : Int) == 0) = true := by rw [hB0]; rfl
      replace hB0 := Lib.hid hB0
      replace hXc := Lib.hid hXc
      go_wp2_with fail
      have hgo := get_own hs d (w6.setCell ⟨w5.heap.size, i, none⟩ (.int .u8 (X : Int)))
      rw [hS.out] at hgo
      unfold readAs zeroCur at hgo
      rw [hv.out] at hgo
      refine hgo.mono ?_
      clear hgo
      rintro e w8 ⟨rfl, g8⟩
      go_wp2_with fail
      have hsh := get_short hs (bit d) (w8.alloc (.cells #[.string n, .string l, .string h, .string x, .int .i64 m, .bool d] 23))
      rw [hS.out] at hsh
      unfold cut1 zeroCur at hsh
      refine hsh.mono ?_
      clear hsh
      rintro e w9 ⟨rfl, g9⟩
      go_wp2_with fail
      refine (halive _).mono ?_
      rintro e wa ⟨rfl, ga⟩
      go_wp2_with fail
      go_ret
      exact ⟨rfl, stands_tr (stands_tr (stands_tr (stands_tr (stands_tr gw7 g8) (stands_of_grown ((Grown.refl w8).alloc _ _))) g9) (stands_of_grown ((Grown.refl w9).alloc _ _))) ga⟩
    · have hsee := get_changed (txt (cur n l h x m [bit d])) (by rw [txt_size]; omega) i (UInt8.ofNat X) (by rw [hS.out]; exact hiS) (by
        rw [hS.out, byteAt_get S i hil.out, hcc.out]
        have : (UInt8.ofNat X).toNat = X := by simp; omega
        rw [this, hX.out]
        exact xor_ne hB0) (w6.setCell ⟨w5.heap.size, i, none⟩ (.int .u8 (X : Int)))
      rw [hS.out] at hsee
      have hz : ((B : Int) == 0) = false := by simp; exact_mod_cast hB0
      replace hB0 := Lib.hid hB0
      replace hsee := Lib.hid hsee
      go_wp2_with fail
      refine hsee.out.mono ?_
      rintro e w8 ⟨rfl, g8⟩
      unfold zeroCur
      go_wp2_with fail
      have M8 := Lib.hid (lies_new w8 ⟨#[]⟩ ⟨#[]⟩ ⟨#[]⟩ ⟨#[]⟩ 0 false)
      have hsh := get_short hs (bit d) (w8.alloc (.cells #[.string ⟨#[]⟩, .string ⟨#[]⟩, .string ⟨#[]⟩, .string ⟨#[]⟩, .int .i64 0, .bool false] 23))
      rw [hS.out] at hsh
      unfold cut1 zeroCur at hsh
      refine hsh.mono ?_
      clear hsh
      rintro e w9 ⟨rfl, g9⟩
      go_wp2_with fail
      have g10 := stands_of_grown ((Grown.refl w9).alloc #[.string ⟨#[]⟩, .string ⟨#[]⟩, .string ⟨#[]⟩, .string ⟨#[]⟩, .int .i64 0, .bool false] 23)
      refine (halive _).mono ?_
      rintro e wa ⟨rfl, ga⟩
      obtain ⟨b0, b1, b2, b3, b4, b5⟩ := ((M8.out.stands g9).stands g10).stands ga
      have hself : ∀ w1 : World, (Go.binOp .eql 23 (.agg #[.string ⟨#[]⟩, .string ⟨#[]⟩, .string ⟨#[]⟩, .string ⟨#[]⟩, .int .i64 0, .bool false]) (.agg #[.string ⟨#[]⟩, .string ⟨#[]⟩, .string ⟨#[]⟩, .string ⟨#[]⟩, .int .i64 0, .bool false])).run Tryz.prog w1 = .ok (.bool true) w1 := eql_self ⟨#[]⟩ ⟨#[]⟩ ⟨#[]⟩ ⟨#[]⟩ 0 false
      go_wp2_with fail
      go_ret
      exact ⟨rfl, stands_tr (stands_tr (stands_tr (stands_tr (stands_tr gw7 g8) (stands_of_grown ((Grown.refl w8).alloc _ _))) g9) g10) ga⟩
end Go.Proofs.YtjjhphjbmllhhaaGreatDoor.Wk
