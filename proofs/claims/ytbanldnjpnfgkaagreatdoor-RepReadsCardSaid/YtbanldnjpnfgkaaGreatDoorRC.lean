/-
  Part of the proof of a statement of this seat: walks of its functions and the closed run; no condition but those written in each theorem.
-/
import Derived.Test.YtbanldnjpnfgkaaGreatDoorProg
import Derived.WalkKit
import Derived.Lib.Hide
import Derived.Lib.AppendStr
import Derived.KernelRfl
import Derived.Deep.RegionHeldLaw
import Derived.Deep.DeepCutAuto
import Derived.Test.YtbanldnjpnfgkaaGreatDoorK0
import Derived.Test.YtbanldnjpnfgkaaGreatDoorV7
import Derived.Test.YtbanldnjpnfgkaaGreatDoorRB
import Derived.Test.YtbanldnjpnfgkaaGreatDoorRA
/- The reference's PutMsg of a delta. -/
namespace Go.Proofs.YtbanldnjpnfgkaaGreatDoor.Wk
set_option maxRecDepth 100000
open Go.RowKit Go.VmK Go.NumPure
theorem no_cons {O : Env → Heap → World → Prop} : ∀ p ∈ ([] : List (FuncId × Con)), ConOK Tryz.prog O p.1 p.2 := fun _ h => by cases h
theorem rzig_lit (n : Int) (z : Nat) (h : (n, z) = (0, 0) ∨ (n, z) = (1, 2) ∨ (n, z) = (2, 4)) (w : World) : Calls Tryz.prog 32 #[.int .i64 n] w fun e w' => e = .returned (.int .u64 z) ∧ Stands w w' := by
  rcases h with h | h | h
  · cases h; exact calls_val (C := ctx [] []) (σ0 := fun _ => none) (v := .int .u64 0) (args := [.int .i64 0]) (xs := [.int .i64 0]) (k := 0) (n := 1000) (ctx_ok [] no_cons) mixed (by rw [← runF_eq]; kernel_rfl) (fun _ _ => rfl) rfl rfl
  · cases h; exact calls_val (C := ctx [] []) (σ0 := fun _ => none) (v := .int .u64 2) (args := [.int .i64 1]) (xs := [.int .i64 1]) (k := 0) (n := 1000) (ctx_ok [] no_cons) mixed (by rw [← runF_eq]; kernel_rfl) (fun _ _ => rfl) rfl rfl
  · cases h; exact calls_val (C := ctx [] []) (σ0 := fun _ => none) (v := .int .u64 4) (args := [.int .i64 2]) (xs := [.int .i64 2]) (k := 0) (n := 1000) (ctx_ok [] no_cons) mixed (by rw [← runF_eq]; kernel_rfl) (fun _ _ => rfl) rfl rfl
theorem rbool_false (w : World) : Calls Tryz.prog 30 #[.bool false] w fun e w' => e = .returned (.string (txt [0])) ∧ Stands w w' :=
  calls_val (C := ctx [] []) (σ0 := fun _ => none) (v := .str [0]) (args := [.bool false]) (xs := [.bool false]) (k := 0) (n := 1000) (ctx_ok [] no_cons) mixed (by rw [← runF_eq]; kernel_rfl) (fun _ _ => rfl) rfl rfl
theorem rof_nil (w : World) : Calls Tryz.prog 37 #[.slice none 0 0] w fun e w' => e = .returned (.slice none 0 0) ∧ Stands w w' :=
  calls_val (C := ctx [] []) (σ0 := fun _ => none) (v := .nils) (args := [.nils]) (xs := [.slice none 0 0]) (k := 0) (n := 1000) (ctx_ok [] no_cons) mixed (by rw [← runF_eq]; kernel_rfl) (fun _ _ => rfl) rfl rfl
theorem rvar_zero (w : World) : Calls Tryz.prog 35 #[.int .u64 0] w fun e w' => e = .returned (.string (txt [0])) ∧ Stands w w' :=
  (rvar_low 0 (by decide) w).mono fun _ _ ⟨h1, h2⟩ => ⟨h1, stands_of_below h2⟩
theorem rtext_nil (w : World) : Calls Tryz.prog 33 #[.string ⟨#[]⟩] w fun e w' => e = .returned (.string (txt [0])) ∧ Stands w w' := rtext_low ⟨#[]⟩ (by decide) w
theorem rtext_zero (w : World) : Calls Tryz.prog 33 #[.string (txt [0])] w fun e w' => e = .returned (.string (txt [1, 0])) ∧ Stands w w' := rtext_low (txt [0]) (by decide) w
theorem rtext_of (d : List UInt8) (h : d.length < 128) (w : World) : Calls Tryz.prog 33 #[.string (txt d)] w fun e w' => e = .returned (.string (txt (UInt8.ofNat d.length :: d))) ∧ Stands w w' := rtext_low (txt d) h w
theorem rvars3 (bk cap : Nat) (w : World) (h0 : w.cell? ⟨bk, 0, none⟩ = some (.int .u64 4)) (h1 : w.cell? ⟨bk, 1, none⟩ = some (.int .u64 2)) (h2 : w.cell? ⟨bk, 2, none⟩ = some (.int .u64 0)) :
    Calls Tryz.prog 31 #[.slice (some ⟨bk, 0, none⟩) 3 cap] w fun e w' => e = .returned (.string (txt [4, 2, 0])) ∧ Stands w w' :=
  rvars_low [4, 2, 0] (by decide) (by decide) (by decide) bk 0 cap w fun j v hj => by
    match j, hj with
    | 0, hj => obtain rfl := Option.some.inj hj; exact h0
    | 1, hj => obtain rfl := Option.some.inj hj; exact h1
    | 2, hj => obtain rfl := Option.some.inj hj; exact h2
/-- the cells of a message that are read -/
abbrev Box (X : Nat) (kd : Int) (name : ByteArray) (put seen gone : Value) (w : World) : Prop :=
  w.cell? ⟨X, 0, none⟩ = some (.int .i64 1) ∧ w.cell? ⟨X, 1, none⟩ = some (.int .i64 2) ∧ w.cell? ⟨X, 2, none⟩ = some (.int .i64 1) ∧ w.cell? ⟨X, 3, none⟩ = some (.int .i64 0) ∧
  w.cell? ⟨X, 4, none⟩ = some (.int .i64 kd) ∧ w.cell? ⟨X, 5, none⟩ = some (.string name) ∧ w.cell? ⟨X, 6, none⟩ = some put ∧ w.cell? ⟨X, 7, none⟩ = some seen ∧ w.cell? ⟨X, 8, none⟩ = some gone ∧
  w.cell? ⟨X, 9, none⟩ = some (.string ⟨#[]⟩) ∧ w.cell? ⟨X, 10, none⟩ = some (.string ⟨#[]⟩) ∧ w.cell? ⟨X, 11, none⟩ = some (.string ⟨#[]⟩) ∧ w.cell? ⟨X, 12, none⟩ = some (.bool false) ∧ w.cell? ⟨X, 13, none⟩ = some (.int .i64 0) ∧
  w.cell? ⟨X, 14, none⟩ = some (.slice none 0 0) ∧ w.cell? ⟨X, 15, none⟩ = some (.slice none 0 0) ∧ w.cell? ⟨X, 16, none⟩ = some (.slice none 0 0) ∧ w.cell? ⟨X, 17, none⟩ = some (.slice none 0 0)
theorem Box.of {X : Nat} {kd : Int} {name : ByteArray} {put seen gone : Value} {w w' : World} (h : Box X kd name put seen gone w) (hb : w'.heap[X]? = w.heap[X]?) : Box X kd name put seen gone w' := by
  have : ∀ i, w'.cell? ⟨X, i, none⟩ = w.cell? ⟨X, i, none⟩ := fun i => by simp only [World.cell?, hb]
  simp only [Box, this]
  exact h
theorem Mid.box {X L : Nat} {kd : Int} {name : ByteArray} {put seen gone : Value} {w1 w : World} {v : Value} {l : List UInt8} (m : Mid X L w1 v l w) (h : Box X kd name put seen gone w1) : Box X kd name put seen gone w :=
  h.of (m.blocks X m.lt (by omega))
theorem Mid.keep {X L : Nat} {kd : Int} {name : ByteArray} {put seen gone : Value} {w1 w : World} {v : Value} {l : List UInt8} (m : Mid X L w1 v l w) (h : Box X kd name put seen gone w1) (W' : World) (hs : Stands w W') : Box X kd name put seen gone W' := (m.stand hs).box h
theorem tail2 {X : Nat} {kd : Int} {name : ByteArray} {put seen gone : Value} {w : World} (h : Box X kd name put seen gone w) : w.cell? ⟨X, 16, none⟩ = some (.slice none 0 0) ∧ w.cell? ⟨X, 17, none⟩ = some (.slice none 0 0) := h.2.2.2.2.2.2.2.2.2.2.2.2.2.2.2.2
theorem Mid.stands0 {X : Nat} {w1 w : World} {v : Value} {l : List UInt8} (m : Mid X (X + 1) w1 v l w) : Stands w1 w := ⟨m.os, m.output, m.size, fun b hb => m.blocks b hb (by omega)⟩
/-- what is written ahead of the sum -/
def pmr (d : List UInt8) : List UInt8 := [1, 0, 0, 4, 2, 0, 0, 0, 0] ++ (UInt8.ofNat d.length :: d ++ [0]) ++ [0] ++ [1, 0, 1, 0]
theorem cat2 (a b : List UInt8) : txt a ++ txt b = txt (a ++ b) := (txt_append a b)
/-- the message, laid in a block of its own -/
abbrev boxed (kd : Int) (name : ByteArray) (put seen gone : Value) (w : World) : World := w.alloc (.cells #[.int .i64 1, .int .i64 2, .int .i64 1, .int .i64 0, .int .i64 kd, .string name, put, seen, gone, .string ⟨#[]⟩, .string ⟨#[]⟩, .string ⟨#[]⟩, .bool false, .int .i64 0, .slice none 0 0, .slice none 0 0, .slice none 0 0, .slice none 0 0] 51)
set_option maxHeartbeats 12800000 in
theorem rputMsg_gen (d : List UInt8) (hd : d.length < 128) (kd : Int) (name : ByteArray) (put seen gone : Value) (w : World) {R : World → World → Prop} {F : World → Prop}
    (hput : ∀ W', Stands (boxed kd name put seen gone w) W' → Calls Tryz.prog 34 #[.agg #[.int .i64 kd, .string name, put, seen, gone]] W' fun e w' => e = .returned (.tuple #[.string (txt d), .int .i64 0]) ∧ W'.heap.size ≤ w'.heap.size ∧ (∀ b, w.heap.size ≤ b → b < W'.heap.size → w'.heap[b]? = W'.heap[b]?) ∧ R W' w')
    (hF : ∀ W' w1 w2, Stands (boxed kd name put seen gone w) W' → R W' w1 → w2.os = w1.os → w2.output = w1.output → w1.heap.size ≤ w2.heap.size → (∀ b, b < w1.heap.size → ¬ (w.heap.size < b ∧ b < W'.heap.size) → w2.heap[b]? = w1.heap[b]?) → F w2) :
    Calls Tryz.prog 12 #[.agg #[.int .i64 1, .int .i64 2, .int .i64 1, .int .i64 0, .int .i64 kd, .string name, put, seen, gone, .string ⟨#[]⟩, .string ⟨#[]⟩, .string ⟨#[]⟩, .bool false, .int .i64 0, .slice none 0 0, .slice none 0 0, .slice none 0 0, .slice none 0 0]] w
      fun e w' => e = .returned (.string (txt (pmr d) ++ be4s (crc (pmr d)))) ∧ F w' := by
  replace hput := Lib.hid hput
  replace hF := Lib.hid hF
  have hbx : Box w.heap.size kd name put seen gone (boxed kd name put seen gone w) := by
    refine ⟨?_, ?_, ?_, ?_, ?_, ?_, ?_, ?_, ?_, ?_, ?_, ?_, ?_, ?_, ?_, ?_, ?_, ?_⟩ <;> exact cell_new _ _ _ _ _ rfl
  have hsz : (boxed kd name put seen gone w).heap.size = w.heap.size + 1 := by simp
  have hm0 := Mid.first hsz 1
  rw [hsz] at hm0
  replace hm0 := Lib.hid hm0
  have hw1 : IntKind.u8.wrap 1 = 1 := by decide
  have hw0 : IntKind.u8.wrap 0 = 0 := by decide
  have hw8 : IntKind.u64.wrap 0 = 0 := by decide
  replace hbx := Lib.hid hbx
  go_enter Tryz.func12, Tryz.ntmps12
  have c12 := (hm0.out.box hbx.out).2.2.2.2.2.2.2.2.2.2.2.2.1
  go_wp2_with fail
  refine (rbool_false _).mono ?_
  rintro e wa ⟨rfl, sta⟩
  clear c12
  go_wp2_with (at_builtin; refine Mid.list_str hm0.out (by decide) rfl _ _ rfl rfl [0] rfl (by decide) sta ?_)
  intro v1 wb hm1
  replace hm1 := Lib.hid hm1
  clear sta hm0
  have c13 := (hm1.out.box hbx.out).2.2.2.2.2.2.2.2.2.2.2.2.2.1
  go_wp2_with (at_builtin; refine Mid.list_row hm1.out (by decide) rfl _ _ rfl rfl _ _ 0 rfl (by decide) (st_alloc (st_refl _)) (cell_new1 rfl) ?_)
  intro v2 wc hm2
  replace hm2 := Lib.hid hm2
  clear c13 hm1
  have hM := hm2
  clear hm2
  go_upto_region 4 with fail
  go_cut [3] (fun v wx => Mid w.heap.size (w.heap.size + 1) (boxed kd name put seen gone w) v [1, 0, 0, 4, 2, 0] wx)
  case first =>
    have hS := Lib.hid (hM.out.keep hbx.out)
    go_region_held_law (fun w' => w'.cell? ⟨w.heap.size, 0, none⟩ = some (.int .i64 1) ∧ w'.cell? ⟨w.heap.size, 1, none⟩ = some (.int .i64 2) ∧ w'.cell? ⟨w.heap.size, 2, none⟩ = some (.int .i64 1) ∧ w'.cell? ⟨w.heap.size, 3, none⟩ = some (.int .i64 0) ∧ w'.cell? ⟨w.heap.size, 4, none⟩ = some (.int .i64 kd) ∧ w'.cell? ⟨w.heap.size, 5, none⟩ = some (.string name) ∧ w'.cell? ⟨w.heap.size, 6, none⟩ = some put ∧ w'.cell? ⟨w.heap.size, 7, none⟩ = some seen ∧ w'.cell? ⟨w.heap.size, 8, none⟩ = some gone ∧ w'.cell? ⟨w.heap.size, 9, none⟩ = some (.string ⟨#[]⟩) ∧ w'.cell? ⟨w.heap.size, 10, none⟩ = some (.string ⟨#[]⟩) ∧ w'.cell? ⟨w.heap.size, 11, none⟩ = some (.string ⟨#[]⟩) ∧ w'.cell? ⟨w.heap.size, 12, none⟩ = some (.bool false) ∧ w'.cell? ⟨w.heap.size, 13, none⟩ = some (.int .i64 0) ∧ w'.cell? ⟨w.heap.size, 14, none⟩ = some (.slice none 0 0) ∧ w'.cell? ⟨w.heap.size, 15, none⟩ = some (.slice none 0 0) ∧ w'.cell? ⟨w.heap.size, 16, none⟩ = some (.slice none 0 0) ∧ w'.cell? ⟨w.heap.size, 17, none⟩ = some (.slice none 0 0))
      (first
          | (with_reducible refine hS.out _ ?_; (repeat (with_reducible first | exact st_refl _ | refine st_alloc ?_ | refine st_drew ?_ | (apply st_step; assumption))); done)
          | (with_reducible exact (hm9.box hbx.out)))
      (first
        | (refine Mid.step_str hM.out (by decide) rfl _ _ rfl _ rfl rfl [4, 2, 0] rfl (by decide) (by ((repeat (with_reducible first | exact st_refl _ | refine st_alloc ?_ | refine st_drew ?_ | (apply st_step; assumption))); done)) (fun v9 w9 hm9 => ?_)
           simp only [Act.put, List.setIfInBounds_toArray, List.set_cons_zero, List.set_cons_succ])
        | (go_at_call_of 32 (Value.int .i64 1)
           refine (rzig_lit 1 2 (.inr (.inl rfl)) _).mono ?_
           rintro r w4 ⟨rfl, hq4⟩)
        | (go_at_call_of 32 (Value.int .i64 2)
           refine (rzig_lit 2 4 (.inr (.inr rfl)) _).mono ?_
           rintro r w5 ⟨rfl, hq5⟩)
        | (go_at_call_of 32 (Value.int .i64 0)
           refine (rzig_lit 0 0 (.inl rfl) _).mono ?_
           rintro r w6 ⟨rfl, hq6⟩)
        | (go_at_call 31
           refine (rvars3 _ 3 _ ?ha ?hb ?hc).mono ?_
           case ha => ((repeat (first | ((with_reducible refine cell_newAt ?_ rfl); simp; done) | (with_reducible refine cell_al ?_) | (with_reducible refine cell_dr ?_) | (with_reducible (apply cell_st; assumption)))); done)
           case hb => ((repeat (first | ((with_reducible refine cell_newAt ?_ rfl); simp; done) | (with_reducible refine cell_al ?_) | (with_reducible refine cell_dr ?_) | (with_reducible (apply cell_st; assumption)))); done)
           case hc => ((repeat (first | ((with_reducible refine cell_newAt ?_ rfl); simp; done) | (with_reducible refine cell_al ?_) | (with_reducible refine cell_dr ?_) | (with_reducible (apply cell_st; assumption)))); done)
           rintro r w7 ⟨rfl, hq7⟩))
    all_goals (go_wp2_with fail; go_meet; exact hm9)
  case rest =>
    replace hcut := Lib.hid hcut
    clear hM
    have hM := hcut
    clear hcut
    go_upto_region 5 with fail
    go_cut [3] (fun v wx => Mid w.heap.size (w.heap.size + 1) (boxed kd name put seen gone w) v [1, 0, 0, 4, 2, 0, 0, 0, 0] wx)
    case first =>
      have h3 : txt [0] ++ txt [0] ++ txt [0] = txt [0, 0, 0] := (congrArg (· ++ txt [0]) (cat2 [0] [0])).trans (cat2 [0, 0] [0])
      have hS := Lib.hid (hM.out.keep hbx.out)
      go_region_held_law (fun w' => w'.cell? ⟨w.heap.size, 0, none⟩ = some (.int .i64 1) ∧ w'.cell? ⟨w.heap.size, 1, none⟩ = some (.int .i64 2) ∧ w'.cell? ⟨w.heap.size, 2, none⟩ = some (.int .i64 1) ∧ w'.cell? ⟨w.heap.size, 3, none⟩ = some (.int .i64 0) ∧ w'.cell? ⟨w.heap.size, 4, none⟩ = some (.int .i64 kd) ∧ w'.cell? ⟨w.heap.size, 5, none⟩ = some (.string name) ∧ w'.cell? ⟨w.heap.size, 6, none⟩ = some put ∧ w'.cell? ⟨w.heap.size, 7, none⟩ = some seen ∧ w'.cell? ⟨w.heap.size, 8, none⟩ = some gone ∧ w'.cell? ⟨w.heap.size, 9, none⟩ = some (.string ⟨#[]⟩) ∧ w'.cell? ⟨w.heap.size, 10, none⟩ = some (.string ⟨#[]⟩) ∧ w'.cell? ⟨w.heap.size, 11, none⟩ = some (.string ⟨#[]⟩) ∧ w'.cell? ⟨w.heap.size, 12, none⟩ = some (.bool false) ∧ w'.cell? ⟨w.heap.size, 13, none⟩ = some (.int .i64 0) ∧ w'.cell? ⟨w.heap.size, 14, none⟩ = some (.slice none 0 0) ∧ w'.cell? ⟨w.heap.size, 15, none⟩ = some (.slice none 0 0) ∧ w'.cell? ⟨w.heap.size, 16, none⟩ = some (.slice none 0 0) ∧ w'.cell? ⟨w.heap.size, 17, none⟩ = some (.slice none 0 0))
        (first
          | (with_reducible refine hS.out _ ?_; (repeat (with_reducible first | exact st_refl _ | refine st_alloc ?_ | refine st_drew ?_ | (apply st_step; assumption))); done)
          | (with_reducible exact (hm9.box hbx.out)))
        (first
          | (refine Mid.step_str hM.out (by decide) rfl _ _ rfl _ rfl rfl [0, 0, 0] (by exact congrArg Value.string h3) (by decide) (by ((repeat (with_reducible first | exact st_refl _ | refine st_alloc ?_ | refine st_drew ?_ | (apply st_step; assumption))); done)) (fun v9 w9 hm9 => ?_)
             simp only [Act.put, List.setIfInBounds_toArray, List.set_cons_zero, List.set_cons_succ])
          | (go_at_call 33
             refine (rtext_nil _).mono ?_
             rintro r w4 ⟨rfl, hq4⟩))
      all_goals (go_wp2_with fail; go_meet; exact hm9)
    case rest =>
      replace hcut := Lib.hid hcut
      clear hM
      have hM := hcut
      clear hcut
      have hb5 := hM.out.box hbx.out
      obtain ⟨c0, -, -, -, c4, c5, c6, c7, c8, -⟩ := hb5
      have hP := Lib.hid (hput.out _ hM.out.stands0)
      go_wp2_with (go_at_call 34; refine hP.out.mono ?_)
      rintro e wd ⟨rfl, hsd, hkd, hR⟩
      have hO := Lib.hid (hM.out.over hsz hsd hkd)
      have hbd := Lib.hid ((hM.out.box hbx.out).of (hkd _ (Nat.le_refl _) (by have := hM.out.size; rw [hsz] at this; omega)))
      have hfin := Lib.hid (fun w2 => hF.out _ wd w2 hM.out.stands0 hR)
      clear c0 c4 c5 c6 c7 c8 hP hbx hM hput hF hR hsd hkd
      generalize wc.heap.size = L at hO hfin
      have hM := hO
      have hbx := hbd
      clear hO hbd
      go_upto_region 9 with fail
      go_cut [3] (fun v wx => Mid w.heap.size L wd v ([1, 0, 0, 4, 2, 0, 0, 0, 0] ++ (UInt8.ofNat d.length :: d ++ [0])) wx)
      case first =>
        have hz1 : (txt (UInt8.ofNat d.length :: d)).size ≤ 200 := by rw [txt_size, List.length_cons]; omega
        have hz2 : (txt [0]).size = 1 := rfl
        have h3 : txt (UInt8.ofNat d.length :: d) ++ txt [0] = txt (UInt8.ofNat d.length :: d ++ [0]) := cat2 _ _
        have hS := Lib.hid (hM.out.keep hbx.out)
        go_region_held_law (fun w' => w'.cell? ⟨w.heap.size, 0, none⟩ = some (.int .i64 1) ∧ w'.cell? ⟨w.heap.size, 1, none⟩ = some (.int .i64 2) ∧ w'.cell? ⟨w.heap.size, 2, none⟩ = some (.int .i64 1) ∧ w'.cell? ⟨w.heap.size, 3, none⟩ = some (.int .i64 0) ∧ w'.cell? ⟨w.heap.size, 4, none⟩ = some (.int .i64 kd) ∧ w'.cell? ⟨w.heap.size, 5, none⟩ = some (.string name) ∧ w'.cell? ⟨w.heap.size, 6, none⟩ = some put ∧ w'.cell? ⟨w.heap.size, 7, none⟩ = some seen ∧ w'.cell? ⟨w.heap.size, 8, none⟩ = some gone ∧ w'.cell? ⟨w.heap.size, 9, none⟩ = some (.string ⟨#[]⟩) ∧ w'.cell? ⟨w.heap.size, 10, none⟩ = some (.string ⟨#[]⟩) ∧ w'.cell? ⟨w.heap.size, 11, none⟩ = some (.string ⟨#[]⟩) ∧ w'.cell? ⟨w.heap.size, 12, none⟩ = some (.bool false) ∧ w'.cell? ⟨w.heap.size, 13, none⟩ = some (.int .i64 0) ∧ w'.cell? ⟨w.heap.size, 14, none⟩ = some (.slice none 0 0) ∧ w'.cell? ⟨w.heap.size, 15, none⟩ = some (.slice none 0 0) ∧ w'.cell? ⟨w.heap.size, 16, none⟩ = some (.slice none 0 0) ∧ w'.cell? ⟨w.heap.size, 17, none⟩ = some (.slice none 0 0))
          (first
            | (with_reducible refine hS.out _ ?_; (repeat (with_reducible first | exact st_refl _ | refine st_alloc ?_ | refine st_drew ?_ | (apply st_step; assumption))); done)
            | (with_reducible exact (hm9.box hbx.out)))
          (first
            | (refine Mid.step_str hM.out (by decide) rfl _ _ rfl _ rfl rfl (UInt8.ofNat d.length :: d ++ [0]) (by exact congrArg Value.string h3) (by simp; omega) (by ((repeat (with_reducible first | exact st_refl _ | refine st_alloc ?_ | refine st_drew ?_ | (apply st_step; assumption))); done)) (fun v9 w9 hm9 => ?_)
               simp only [Act.put, List.setIfInBounds_toArray, List.set_cons_zero, List.set_cons_succ])
            | (go_at_call 33
               refine (rtext_of d hd _).mono ?_
               rintro r w4 ⟨rfl, hq4⟩)
            | (go_at_call 35
               refine (rvar_zero _).mono ?_
               rintro r w5 ⟨rfl, hq5⟩))
        all_goals (go_wp2_with fail; go_meet; exact hm9)
      case rest =>
        replace hcut := Lib.hid hcut
        clear hM
        have hM := hcut
        clear hcut
        obtain ⟨-, -, -, -, -, -, -, -, -, -, -, -, -, -, c14, c15, -⟩ := hM.out.box hbx.out
        go_wp2_with fail
        refine wp_loop_rounds 2 ?_
        rw [rounds_succ]
        go_wp2_with fail
        refine (rvar_zero _).mono ?_
        rintro r we ⟨rfl, ste⟩
        go_wp2_with (at_builtin; refine Mid.list_str hM.out (by simp) rfl _ _ rfl rfl [0] rfl (by simp; omega) ste ?_)
        intro v3 wf hm3
        have hN : Hid (Mid w.heap.size L wd v3 ([1, 0, 0, 4, 2, 0, 0, 0, 0] ++ (UInt8.ofNat d.length :: d ++ [0]) ++ [0]) wf) := Lib.hid (by simpa using hm3)
        clear c14 c15 hM ste hm3
        obtain ⟨-, -, -, -, -, -, -, -, -, -, -, -, -, -, c14, c15, -⟩ := hN.out.box hbx.out
        go_wp2_with fail
        refine wp_loop_rounds 2 ?_
        rw [rounds_succ]
        clear c14
        have hM := hN
        clear hN
        go_upto_region 19 with fail
        go_cut [3] (fun v wx => Mid w.heap.size L wd v (pmr d) wx)
        case first =>
          have h3 : txt [1, 0] ++ txt [1, 0] = txt [1, 0, 1, 0] := cat2 _ _
          have hz1 : (txt [1, 0]).size = 2 := rfl
          have hS := Lib.hid (fun W' (hs : Stands _ W') => tail2 (hM.out.keep hbx.out W' hs))
          go_region_held_law (fun w' => w'.cell? ⟨w.heap.size, 16, none⟩ = some (.slice none 0 0) ∧ w'.cell? ⟨w.heap.size, 17, none⟩ = some (.slice none 0 0))
            (first
              | (with_reducible refine hS.out _ ?_; (repeat (with_reducible first | exact st_refl _ | refine st_alloc ?_ | refine st_drew ?_ | (apply st_step; assumption))); done)
              | (with_reducible exact (tail2 (hm9.box hbx.out))))
            (first
              | (refine Mid.step_str hM.out (by simp) rfl _ _ rfl _ rfl rfl [1, 0, 1, 0] (by exact congrArg Value.string h3) (by simp; omega) (by ((repeat (with_reducible first | exact st_refl _ | refine st_alloc ?_ | refine st_drew ?_ | (apply st_step; assumption))); done)) (fun v9 w9 hm9 => ?_)
                 simp only [Act.put, List.setIfInBounds_toArray, List.set_cons_zero, List.set_cons_succ])
              | (go_at_call 37
                 refine (rof_nil _).mono ?_
                 rintro r w4 ⟨rfl, hq4⟩)
              | (go_at_call 38
                 refine (rput_nil _).mono ?_
                 rintro r w5 ⟨rfl, hq5⟩)
              | (go_at_call 33
                 refine (rtext_zero _).mono ?_
                 rintro r w6 ⟨rfl, hq6⟩))
          all_goals (go_wp2_with fail; go_meet; exact hm9)
        case rest =>
          replace hcut := Lib.hid hcut
          clear hM
          have hM := hcut
          clear hcut
          have hne : pmr d ≠ [] := by simp [pmr]
          have hT := own_text hM.out.own hne
          have hpl : (pmr d).length ≤ 1000 := by simp [pmr]; omega
          go_wp2_with fail
          refine (rseal_any (txt (pmr d)) (by rw [txt_size]; omega) _).mono ?_
          rintro r wg ⟨rfl, stg⟩
          go_wp2
          go_ret
          have hm := hM.out.stand stg
          exact ⟨by (first | rfl | (rw [txt_list]; rfl) | (simp only [txt_list]; done)), hfin.out _ hm.os hm.output hm.size hm.blocks⟩
end Go.Proofs.YtbanldnjpnfgkaaGreatDoor.Wk
/- The reference's PutMsg by its law: calls of it whose memory is known, by what PutDelta does there. -/
namespace Go.Proofs.YtbanldnjpnfgkaaGreatDoor.Wk
set_option maxRecDepth 100000
open Go.RowKit Go.VmK Go.NumPure
/-- a text with its sum behind it -/
def sealed (s : ByteArray) : ByteArray := s ++ be4s (crc s.data.toList)
theorem sealed_size (s : ByteArray) : (sealed s).size = s.size + 4 := by unfold sealed; rw [ByteArray.size_append, be4s_size]
theorem sealed_pre (s : ByteArray) : (sealed s).extract 0 s.size = s := by
  apply ByteArray.ext
  unfold sealed
  rw [ByteArray.data_extract, ByteArray.data_append]
  show (s.data ++ _).extract 0 s.data.size = _
  rw [Array.extract_append_left]
  simp
theorem sealed_rd (s : ByteArray) : rd4 (sealed s) s.size = crc s.data.toList := rd4_append s _ (crc_lt _)
theorem refmsg_known {O : Env → Heap → World → Prop} {rs : List (List AV × Heap × List (AV × Heap))}
    (h : ∀ r ∈ rs, (∃ (C : Ctx) (n : Nat), ProgOK Tryz.prog C O ∧ runCall C n 12 r.1 r.2.1 = some r.2.2) ∨ ∃ (d : List UInt8) (kd : Int) (nm : AV) (name : ByteArray) (put seen gone : AV) (v t : AV) (H' : Heap) (σ0 : Nat → Option Value), d.length < 128 ∧
      r.1 = [.agg [.int .i64 1, .int .i64 2, .int .i64 1, .int .i64 0, .int .i64 kd, nm, put, seen, gone, .str [], .str [], .str [], .bool false, .int .i64 0, .nils, .nils, .nils, .nils]] ∧ r.2.2 = [(v, H')] ∧
      (∀ (η : Env) (H : Heap) (w : World), O η H w → (env0 σ0).le η) ∧ conc (env0 σ0) nm = some (.string name) ∧ conc (env0 σ0) t = some (.string (txt d)) ∧ conc (env0 σ0) v = some (.string (txt (pmr d) ++ be4s (crc (pmr d)))) ∧
      ∃ (C : Ctx) (n : Nat), ProgOK Tryz.prog C O ∧ runCall C n 34 [.agg [.int .i64 kd, nm, put, seen, gone]] r.2.1 = some [(.tuple [t, .int .i64 0], H')]) :
    ConOK Tryz.prog O 12 (.known rs) := by
  intro E η H w args xs l b hx hl cs
  simp only [conRun] at hl
  cases E with
  | cons => cases hl
  | nil =>
    rcases h _ (knownIn_some rs hl) with ⟨C, n, hC, hr⟩ | ⟨d, kd, nm, name, put, seen, gone, v, t, H', σ0, hlen, ha, ho, hle, hnm, ht, hv, C, n, hC, hr⟩
    · exact callIn_sound hC (exec_ok hC mixed n) hr b hx cs
    simp only at ha ho hr
    subst ha
    subst ho
    have hle := hle η H w b.inv
    have hnm := conc_mono hle _ _ hnm
    simp only [concL, conc, hnm] at hx
    cases hp : conc η put with
    | none => rw [hp] at hx; simp at hx
    | some p =>
      cases hs : conc η seen with
      | none => rw [hp, hs] at hx; simp at hx
      | some s =>
        cases hg : conc η gone with
        | none => rw [hp, hs, hg] at hx; simp at hx
        | some g =>
          rw [hp, hs, hg] at hx
          simp only [Option.some.injEq] at hx
          subst hx
          have hX : ∀ k, w.heap.size ≤ k → ¬ Live η H k := by
            rintro k hk ⟨id, o, h1, h2⟩
            obtain ⟨b', ob, h3, h4, _⟩ := b.rel.obj id o h1
            rw [h2] at h3; cases h3
            have := lt_of_get h4
            omega
          have hst : ∀ W', Stands (boxed kd name p s g w) W' → Stands w W' := fun W' hW => st_step hW (st_alloc (st_refl w))
          have hput : ∀ W', Stands (boxed kd name p s g w) W' → Calls Tryz.prog 34 #[.agg #[.int .i64 kd, .string name, p, s, g]] W' fun e w' => e = .returned (.tuple #[.string (txt d), .int .i64 0]) ∧ W'.heap.size ≤ w'.heap.size ∧ (∀ k, w.heap.size ≤ k → k < W'.heap.size → w'.heap[k]? = W'.heap[k]?) ∧
              ∃ η', Trans Tryz.prog [] η H W' η' H' w' ∧ Above η' H' ∧ Go.VmK.Below H.next η η' H H' := by
            intro W' hW cs'
            have t1 : Trans Tryz.prog [] η H w η H W' := Trans.stands b.rel (hst W' hW)
            have b1 : Base Tryz.prog O [] η H W' := b.step t1 b.above (Nat.le_refl _)
            obtain ⟨q, hq, η', x, w', ⟨fr, h1, h2, h3, h6⟩, h4, t, a, bl⟩ := callIn_sound hC (exec_ok hC mixed n) hr b1 (xs := [.agg #[.int .i64 kd, .string name, p, s, g]]) (by simp [concL, conc, hnm, hp, hs, hg]) cs'
            obtain rfl : q = _ := by simpa using hq
            have hx2 : x = .tuple #[.string (txt d), .int .i64 0] := by
              have ht := conc_mono (hle.trans t.le) _ _ ht
              simp only [conc, concL, ht] at h4
              exact (Option.some.inj h4).symm
            subst hx2
            exact ⟨.returned _, w', fr, ⟨rfl, t.keeps.size, fun k hk hk2 => t.frame k hk2 (hX k hk), η', t, a, bl⟩, h1, h2, leaving_of h3 h6⟩
          obtain ⟨e, w', fr, ⟨rfl, η', t3, a2, bl2⟩, q1, q2, q3⟩ := rputMsg_gen d hlen kd name p s g w (R := fun W' w' => ∃ η', Trans Tryz.prog [] η H W' η' H' w' ∧ Above η' H' ∧ Go.VmK.Below H.next η η' H H') (F := fun w' => ∃ η', Trans Tryz.prog [] η H w η' H' w' ∧ Above η' H' ∧ Go.VmK.Below H.next η η' H H') hput (by
            rintro W' w1 w2 hW ⟨η', t2, a, bl⟩ hos hout hsz hbl
            have t1 : Trans Tryz.prog [] η H w η H W' := Trans.stands b.rel (hst W' hW)
            have t12 := t1.trans t2
            refine ⟨η', ⟨t12.le, ⟨fun id o ho => ?_, t12.rel.inj⟩, fun k hk hl => ?_, t12.shr, ?_⟩, a, bl⟩
            · obtain ⟨k, ob, h1, h2, h3⟩ := t12.rel.obj id o ho
              refine ⟨k, ob, h1, (hbl k (lt_of_get h2) ?_).trans h2, h3⟩
              rintro ⟨h4, h5⟩
              exact hX k (by omega) (t2.shr k h5 ⟨id, o, ho, h1⟩)
            · have hk1 : k < w1.heap.size := Nat.lt_of_lt_of_le hk t12.keeps.size
              exact (hbl k hk1 (by omega)).trans (t12.frame k hk hl)
            · have hk := t12.keeps
              exact ⟨hos.trans hk.os, hout.trans hk.output, Nat.le_trans hk.size hsz⟩) cs
          exact ⟨(v, H'), List.mem_cons_self, η', .string (txt (pmr d) ++ be4s (crc (pmr d))), w', ⟨fr, q1, q2, going_of q3⟩, conc_mono (hle.trans t3.le) _ _ hv, t3, a2, bl2⟩
end Go.Proofs.YtbanldnjpnfgkaaGreatDoor.Wk
