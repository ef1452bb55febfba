/-
  Part of the proof of a statement of this seat: walks of its functions and the closed run; no condition but those written in each theorem.
-/
import Derived.Test.YtckjnglhbjiklaaGreatDoorK0
import Derived.WalkKit
import Derived.Lib.Hide
import Derived.KernelRfl
import Derived.Deep.RegionHeld
import Derived.Test.YtckjnglhbjiklaaGreatDoorV7
import Derived.Test.YtckjnglhbjiklaaGreatDoorPV
import Derived.Test.YtckjnglhbjiklaaGreatDoorQT
import Derived.Test.YtckjnglhbjiklaaGreatDoorQI2
import Derived.Deep.DeepCutAuto
/- delta.clocks of two empty rows; delta.putItems of none; delta.PutMsg of a delta. -/
namespace Go.Proofs.YtckjnglhbjiklaaGreatDoor.Wk
set_option maxRecDepth 100000
open Go.RowKit Go.VmK Go.NumPure Go.Shelf
noncomputable def newOut : Option (List (AV × Heap)) := runF (ctx [] []) 1000 78 [.nils] (heap0 0)
noncomputable def newHeap : Heap := match newOut with | some [(_, H)] => H | _ => heap0 0
noncomputable def newVal : AV := match newOut with | some [(v, _)] => v | _ => .nils
noncomputable def isOne : Option (List (AV × Heap)) → Bool | some [_] => true | _ => false
theorem new_one : isOne newOut = true := by kernel_rfl
theorem put_zero : saysVal (.str [0]) (runF (ctx [] []) 1000 79 [newVal] newHeap) = true := by kernel_rfl
theorem new_run : newOut = some [(newVal, newHeap)] := by
  have h := new_one
  unfold newVal newHeap
  cases ho : newOut with
  | none => rw [ho] at h; cases h
  | some l =>
    rw [ho] at h
    match l, h with
    | [p], _ => rfl
theorem no_cons {O : Env → Heap → World → Prop} : ∀ p ∈ ([] : List (FuncId × Con)), ConOK Tryz.prog O p.1 p.2 := fun _ h => by cases h
theorem clock_new (w : World) : Calls Tryz.prog 78 #[.slice none 0 0] w fun e w' => ∃ η x, e = .returned x ∧ conc η newVal = some x ∧ St Tryz.prog w η newHeap w' := by
  refine ((St.start (P := Tryz.prog) w 0).call1 (ctx_ok [] no_cons) mixed (by rw [← runF_eq]; exact new_run) (xs := [.slice none 0 0]) rfl).mono ?_
  rintro e w' ⟨η, x, h1, h2, h3, _⟩
  exact ⟨η, x, h1, h2, h3⟩
theorem clock_put {w0 w : World} {η : Env} {x : Value} (hx : conc η newVal = some x) (s : St Tryz.prog w0 η newHeap w) : Calls Tryz.prog 79 #[x] w fun e w' => e = .returned (.string ⟨#[0]⟩) ∧ Stands w0 w' := by
  have hr := put_zero
  cases ho : runF (ctx [] []) 1000 79 [newVal] newHeap with
  | none => rw [ho] at hr; cases hr
  | some outs =>
    rw [ho] at hr
    refine (s.call (ctx_ok [] no_cons) mixed (by rw [← runF_eq]; exact ho) (xs := [x]) (by simp [concL, hx])).mono ?_
    rintro e w' ⟨p, hp, η', y, h1, h2, h3, _⟩
    have hb := eqAV_eq _ _ (List.all_eq_true.1 hr p hp)
    rw [hb] at h2
    obtain rfl : y = .string ⟨#[0]⟩ := (Option.some.inj h2).symm
    exact ⟨h1, h3.stands⟩
theorem items0_any (w : World) : Calls Tryz.prog 300 #[.slice none 0 0] w fun e w' => e = .returned (.string ⟨#[0]⟩) ∧ Stands w w' :=
  calls_val (C := ctx [] []) (σ0 := fun _ => none) (v := .str [0]) (args := [.nils]) (xs := [.slice none 0 0]) (k := 0) (n := 1000) (ctx_ok [] no_cons) mixed (by rw [← runF_eq]; kernel_rfl) (fun _ _ => rfl) rfl rfl
theorem text0_any (w : World) : Calls Tryz.prog 149 #[.slice none 0 0] w fun e w' => e = .returned (.string ⟨#[]⟩) ∧ Stands w w' :=
  calls_val (C := ctx [] []) (σ0 := fun _ => none) (v := .str []) (args := [.nils]) (xs := [.slice none 0 0]) (k := 0) (n := 1000) (ctx_ok [] no_cons) mixed (by rw [← runF_eq]; kernel_rfl) (fun _ _ => rfl) rfl rfl
/-- an empty clock, laid as a text -/
def ck0 : List UInt8 := tx [⟨#[0]⟩]
set_option maxHeartbeats 3200000 in
theorem clocks0_any (bk off cap : Nat) (w : World) (hc0 : w.cell? ⟨bk, off, none⟩ = some (.slice none 0 0)) (hc1 : w.cell? ⟨bk, off + 1, none⟩ = some (.slice none 0 0)) :
    Calls Tryz.prog 301 #[.slice (some ⟨bk, off, none⟩) 2 cap] w fun e w' => e = .returned (.string (txt (ck0 ++ ck0))) ∧ Stands w w' := by
  have hcs : (txt (tx [⟨#[0]⟩])).size = 2 := by kernel_rfl
  go_enter Tryz.func301, Tryz.ntmps301
  go_wp2
  refine wp_loop_rounds 3 ?_
  rw [rounds_succ]
  go_wp2_with fail
  refine (clock_new w).mono ?_
  rintro e w1 ⟨η1, x1, rfl, hx1, s1⟩
  go_wp2_with fail
  refine (clock_put hx1 s1).mono ?_
  rintro e w2 ⟨rfl, st2⟩
  go_wp2_with fail
  refine (text1_any ⟨#[0]⟩ w2.heap.size 1 _ (by decide) (cell_new _ _ _ _ _ rfl)).mono ?_
  rintro e w3 ⟨rfl, st3⟩
  have st3' := st_step st3 (st_alloc st2)
  replace hc1 := cell_st st3' hc1
  go_wp2
  rw [rounds_succ]
  go_wp2_with fail
  refine (clock_new w3).mono ?_
  rintro e w4 ⟨η4, x4, rfl, hx4, s4⟩
  go_wp2_with fail
  refine (clock_put hx4 s4).mono ?_
  rintro e w5 ⟨rfl, st5⟩
  go_wp2_with fail
  refine (text1_any ⟨#[0]⟩ w5.heap.size 1 _ (by decide) (cell_new _ _ _ _ _ rfl)).mono ?_
  rintro e w6 ⟨rfl, st6⟩
  have st6' := st_step st6 (st_alloc (st_step st5 st3'))
  go_wp2
  rw [rounds_succ]
  go_wp2
  go_ret
  exact ⟨rfl, st6'⟩
theorem zig_lit (n : Int) (z : Nat) (h : (n, z) = (0, 0) ∨ (n, z) = (1, 2) ∨ (n, z) = (2, 4)) (w : World) : Calls Tryz.prog 150 #[.int .i64 n] w fun e w' => e = .returned (.int .u64 z) ∧ Stands w w' := by
  rcases h with h | h | h
  · cases h; exact calls_val (C := ctx [] []) (σ0 := fun _ => none) (v := .int .u64 0) (args := [.int .i64 0]) (xs := [.int .i64 0]) (k := 0) (n := 1000) (ctx_ok [] no_cons) mixed (by rw [← runF_eq]; kernel_rfl) (fun _ _ => rfl) rfl rfl
  · cases h; exact calls_val (C := ctx [] []) (σ0 := fun _ => none) (v := .int .u64 2) (args := [.int .i64 1]) (xs := [.int .i64 1]) (k := 0) (n := 1000) (ctx_ok [] no_cons) mixed (by rw [← runF_eq]; kernel_rfl) (fun _ _ => rfl) rfl rfl
  · cases h; exact calls_val (C := ctx [] []) (σ0 := fun _ => none) (v := .int .u64 4) (args := [.int .i64 2]) (xs := [.int .i64 2]) (k := 0) (n := 1000) (ctx_ok [] no_cons) mixed (by rw [← runF_eq]; kernel_rfl) (fun _ _ => rfl) rfl rfl
theorem seal_any (s : ByteArray) (w : World) (hs : s.size ≤ 1000000000) :
    Calls Tryz.prog 77 #[.string s] w fun e w' => e = .returned (.string (s ++ be4s (crc s.data.toList))) ∧ Stands w w' := by
  have h4 := be4s_size (crc s.data.toList)
  have hcr := crc_lt s.data.toList
  go_enter Tryz.func77, Tryz.ntmps77
  go_wp2_with fail
  refine (crc_any s w.heap.size 0 1 _ (by omega) (cell_new _ _ _ _ _ rfl)).mono ?_
  rintro e w1 ⟨rfl, rfl⟩
  go_wp2_with fail
  refine (four_any _ hcr _).mono ?_
  rintro e w2 ⟨rfl, hw2⟩
  go_wp2
  go_ret
  exact ⟨rfl, st_step hw2 (st_alloc (st_refl _))⟩
theorem var3_zero (a b c : Nat) (ha : a < 128) (hb : b < 128) (hcc : c < 128) (bk cap : Nat) (w : World) (hc : w.cell? ⟨bk, 0, none⟩ = some (.int .u64 a)) (hd : w.cell? ⟨bk, 1, none⟩ = some (.int .u64 b)) (he : w.cell? ⟨bk, 2, none⟩ = some (.int .u64 c)) :
    Calls Tryz.prog 147 #[.slice (some ⟨bk, 0, none⟩) 3 cap] w fun e w' => e = .returned (.string (txt [UInt8.ofNat a, UInt8.ofNat b, UInt8.ofNat c])) ∧ Stands w w' :=
  (var3_small a b c ha hb hcc bk 0 cap w (World.block_lt_of_cell? _ _ hc) hc hd he).mono fun _ _ ⟨h1, h2⟩ => ⟨h1, stands_of_below h2⟩
theorem var1_zero (bk cap : Nat) (w : World) (hc : w.cell? ⟨bk, 0, none⟩ = some (.int .u64 0)) :
    Calls Tryz.prog 147 #[.slice (some ⟨bk, 0, none⟩) 1 cap] w fun e w' => e = .returned (.string (txt [0])) ∧ Stands w w' :=
  (var_any 0 (by decide) bk 0 cap w (World.block_lt_of_cell? _ _ hc) hc).mono fun _ _ ⟨h1, h2⟩ => ⟨by rw [h1, vr_low (by decide)]; rfl, stands_of_below h2⟩
theorem tx4_len (told : List UInt8) (hl : told.length ≤ 100000) : (tx [⟨#[]⟩, ⟨#[]⟩, ⟨#[]⟩, txt told]).length ≤ 110000 := by
  have h1 := vr_short (n := told.length) (by omega)
  have h0 := vr_short (n := 0) (by omega)
  have e0 : (⟨#[]⟩ : ByteArray).size = 0 := rfl
  simp [tx, vb, txt_size, txt_list, e0]
  omega
theorem text4_any (told : List UInt8) (hl : told.length ≤ 100000) (bk cap : Nat) (w : World) (h0 : w.cell? ⟨bk, 0, none⟩ = some (.string ⟨#[]⟩)) (h1 : w.cell? ⟨bk, 1, none⟩ = some (.string ⟨#[]⟩)) (h2 : w.cell? ⟨bk, 2, none⟩ = some (.string ⟨#[]⟩)) (h3 : w.cell? ⟨bk, 3, none⟩ = some (.string (txt told))) :
    Calls Tryz.prog 149 #[.slice (some ⟨bk, 0, none⟩) 4 cap] w fun e w' => e = .returned (.string (txt (tx [⟨#[]⟩, ⟨#[]⟩, ⟨#[]⟩, txt told]))) ∧ Stands w w' := by
  have hq : ∀ x ∈ [(⟨#[]⟩ : ByteArray), ⟨#[]⟩, ⟨#[]⟩, txt told], x.size ≤ 1000000000 := by
    intro x hx
    simp at hx
    rcases hx with rfl | rfl
    · decide
    · rw [txt_size]; omega
  refine (text_any [⟨#[]⟩, ⟨#[]⟩, ⟨#[]⟩, txt told] bk 0 cap w (World.block_lt_of_cell? _ _ h0) (by simp) (by have := tx4_len told hl; omega) hq ?_).mono fun _ _ ⟨h1, h2⟩ => ⟨h1, stands_of_below h2⟩
  intro j x hj
  match j, hj with
  | 0, hj => simp at hj; subst hj; simpa using h0
  | 1, hj => simp at hj; subst hj; simpa using h1
  | 2, hj => simp at hj; subst hj; simpa using h2
  | 3, hj => simp at hj; subst hj; simpa using h3
theorem clocks0_zero (bk cap : Nat) (w : World) (hc0 : w.cell? ⟨bk, 0, none⟩ = some (.slice none 0 0)) (hc1 : w.cell? ⟨bk, 1, none⟩ = some (.slice none 0 0)) :
    Calls Tryz.prog 301 #[.slice (some ⟨bk, 0, none⟩) 2 cap] w fun e w' => e = .returned (.string (txt (ck0 ++ ck0))) ∧ Stands w w' := clocks0_any bk 0 cap w hc0 hc1
theorem cat_empty (a b : List UInt8) : txt a ++ txt b ++ ⟨#[]⟩ = txt (a ++ b) := by apply ByteArray.ext; simp [txt]
/-- the cells of a message that are read -/
abbrev Box (X : Nat) (w : World) : Prop :=
  w.cell? ⟨X, 0, none⟩ = some (.int .i64 1) ∧ w.cell? ⟨X, 1, none⟩ = some (.int .i64 1) ∧ w.cell? ⟨X, 2, none⟩ = some (.int .i64 2) ∧ w.cell? ⟨X, 3, none⟩ = some (.int .i64 0) ∧
  w.cell? ⟨X, 9, none⟩ = some (.string ⟨#[]⟩) ∧ w.cell? ⟨X, 10, none⟩ = some (.string ⟨#[]⟩) ∧ w.cell? ⟨X, 11, none⟩ = some (.string ⟨#[]⟩) ∧ w.cell? ⟨X, 12, none⟩ = some (.bool false) ∧ w.cell? ⟨X, 13, none⟩ = some (.int .i64 0) ∧
  w.cell? ⟨X, 14, none⟩ = some (.slice none 0 0) ∧ w.cell? ⟨X, 15, none⟩ = some (.slice none 0 0) ∧ w.cell? ⟨X, 16, none⟩ = some (.slice none 0 0) ∧ w.cell? ⟨X, 17, none⟩ = some (.slice none 0 0)
theorem Box.of {X : Nat} {w w' : World} (h : Box X w) (hb : w'.heap[X]? = w.heap[X]?) : Box X w' := by
  have : ∀ i, w'.cell? ⟨X, i, none⟩ = w.cell? ⟨X, i, none⟩ := fun i => by simp only [World.cell?, hb]
  simp only [Box, this]
  exact h
/-- what is written ahead of the sum -/
def pmA : List UInt8 := [1, 0, 0]
def pmB : List UInt8 := pmA ++ [2, 4, 0]
def pmC (told : List UInt8) : List UInt8 := pmB ++ (tx [⟨#[]⟩, ⟨#[]⟩, ⟨#[]⟩, txt told] ++ [0])
def pmD (told : List UInt8) : List UInt8 := pmC told ++ (0 :: (ck0 ++ ck0))
def pm (told : List UInt8) : ByteArray := txt (pmD told) ++ be4s (crc (pmD told))
theorem pmD_len (told : List UInt8) (hl : told.length ≤ 100000) : (pmD told).length ≤ 200000 := by
  have h1 := tx4_len told hl
  have h2 : (ck0 ++ ck0).length = 4 := by kernel_rfl
  simp only [pmD, pmC, pmB, pmA, List.length_append, List.length_cons, List.length_nil] at h2 ⊢
  omega
theorem pmC_len (told : List UInt8) (hl : told.length ≤ 100000) : (pmC told).length + (0 :: (ck0 ++ ck0)).length ≤ 100000000 := by
  have h1 := pmD_len told hl
  simp only [pmD, List.length_append] at h1 ⊢
  omega
/-- what stands between two statements of delta.PutMsg -/
structure Mid (X : Nat) (w2 : World) (b : Nat) (l : List UInt8) (wx : World) : Prop where
  bld : Lib.IsBuilder 251 5 b b (Lib.byteCells l) wx
  st : Stands w2 wx
  box : Box X wx
  lt : X < b
  le : w2.heap.size ≤ b
  ltb : b < wx.heap.size
/-- a builder's writing, in a world that has grown out of one that stood there -/
theorem Mid.write {X : Nat} {w2 wb : World} {b : Nat} {l : List UInt8} (m : Mid X w2 b l wb) (t : List UInt8) (x : ByteArray) (hx : x = txt t) (hlen : l.length + t.length ≤ 100000000) (W' : World) (h : Stands wb W') :
    Calls Tryz.prog 146 #[.pointer (some ⟨b, 0, none⟩), .string x] W' fun r w9 => r = .returned (.tuple #[.int .i64 x.size, .nilIface]) ∧ Mid X w2 b (l ++ t) w9 := by
  subst hx
  refine (builder_write b b (Lib.byteCells l) (txt t) W' (builder_stays m.bld h.blocks) (by rw [byteCells_len, txt_size]; omega) (by have := h.size; have := m.ltb; omega)).mono ?_
  rintro r w9 ⟨rfl, hB, hb⟩
  have hlt := m.lt
  have hle := m.le
  have hltb := m.ltb
  have hs := m.st.size
  rw [strCells_txt, ← byteCells_append] at hB
  refine ⟨rfl, hB, ⟨hb.os.trans (h.os.trans m.st.os), hb.output.trans (h.output.trans m.st.output), Nat.le_trans hs (Nat.le_trans h.size hb.size), fun j hj => (hb.block j (by omega)).trans ((h.blocks j (by omega)).trans (m.st.blocks j hj))⟩, m.box.of ((hb.block _ hlt).trans (h.blocks _ (by omega))), hlt, hle, by have := hb.size; have := h.size; omega⟩
theorem Mid.keep {X : Nat} {w2 wb : World} {b : Nat} {l : List UInt8} (m : Mid X w2 b l wb) (W' : World) (h : Stands wb W') : Box X W' := m.box.of (h.blocks _ (by have := m.lt; have := m.ltb; omega))
theorem conv_one (x : UInt8) (W : World) (n : Nat) (h : W.cell? ⟨n, 0, none⟩ = some (.int .u8 x.toNat)) : (convert 249 9 (.slice (some ⟨n, 0, none⟩) 1 1)).run Tryz.prog W = .ok (.string (txt [x])) W := by
  have := conv_bytes (P := Tryz.prog) (w := W) Tryz.underlying249 Tryz.underlying5 Tryz.underlying9 n 0 1 [x.toNat] (by
    intro j m hj
    match j, hj with
    | 0, hj => simp at hj; subst hj; simpa using h)
  simpa [bytesOf, txt] using this
set_option maxHeartbeats 12800000 in
theorem putMsg_gen (told : List UInt8) (hl : told.length ≤ 100000) (okind : Int) (name : ByteArray) (put seen gone : Value) (w : World) {R : World → Prop}
    (hput : Calls Tryz.prog 299 #[.agg #[.int .i64 okind, .string name, put, seen, gone]] (w.alloc (.cells #[.int .i64 1, .int .i64 1, .int .i64 2, .int .i64 0, .int .i64 okind, .string name, put, seen, gone, .string ⟨#[]⟩, .string ⟨#[]⟩, .string ⟨#[]⟩, .bool false, .int .i64 0, .slice none 0 0, .slice none 0 0, .slice none 0 0, .slice none 0 0] 273)) fun e w' => e = .returned (.tuple #[.string (txt told), .int .i64 0]) ∧ w'.heap[w.heap.size]? = (w.alloc (.cells #[.int .i64 1, .int .i64 1, .int .i64 2, .int .i64 0, .int .i64 okind, .string name, put, seen, gone, .string ⟨#[]⟩, .string ⟨#[]⟩, .string ⟨#[]⟩, .bool false, .int .i64 0, .slice none 0 0, .slice none 0 0, .slice none 0 0, .slice none 0 0] 273)).heap[w.heap.size]? ∧ w.heap.size < w'.heap.size ∧ R w') :
    Calls Tryz.prog 229 #[.agg #[.int .i64 1, .int .i64 1, .int .i64 2, .int .i64 0, .int .i64 okind, .string name, put, seen, gone, .string ⟨#[]⟩, .string ⟨#[]⟩, .string ⟨#[]⟩, .bool false, .int .i64 0, .slice none 0 0, .slice none 0 0, .slice none 0 0, .slice none 0 0]] w
      fun e w' => e = .returned (.string (pm told)) ∧ ∃ w2, R w2 ∧ Stands w2 w' := by
  replace hput := Lib.hid hput
  have hbx : Box w.heap.size (w.alloc (.cells #[.int .i64 1, .int .i64 1, .int .i64 2, .int .i64 0, .int .i64 okind, .string name, put, seen, gone, .string ⟨#[]⟩, .string ⟨#[]⟩, .string ⟨#[]⟩, .bool false, .int .i64 0, .slice none 0 0, .slice none 0 0, .slice none 0 0, .slice none 0 0] 273)) := by
    refine ⟨?_, ?_, ?_, ?_, ?_, ?_, ?_, ?_, ?_, ?_, ?_, ?_, ?_⟩ <;> exact cell_new _ _ _ _ _ rfl
  replace hbx := Lib.hid hbx
  go_enter Tryz.func229, Tryz.ntmps229
  go_wp2_with (go_at_call 299; refine hput.out.mono ?_)
  rintro e w1 ⟨rfl, hX1, hX2, hR⟩
  have hm : Mid w.heap.size w1 w1.heap.size [] (w1.alloc (.cells #[.pointer none, .slice none 0 0] 251)) := by
    refine ⟨.inl ⟨Nat.le_refl _, .slice none 0 0, ?_, World.ownsRow_nil _ _ _ _, by simp [Value.ownBlock]⟩, st_alloc (st_refl w1), hbx.out.of ?_, hX2, Nat.le_refl _, by simp⟩
    · simp [World.alloc, -World.alloc_eq]
    · exact (RowKit.Below.heap_alloc _ _ _ hX2).trans hX1
  clear hput hbx hX1 hX2
  go_upto_region 5 with fail
  generalize w1.alloc (.cells #[.pointer none, .slice none 0 0] 251) = wb at hm ⊢
  replace hm := Lib.hid hm
  go_cut [] (fun wx => Mid w.heap.size w1 w1.heap.size pmA wx)
  case first =>
    have hS := Lib.hid hm.out.keep
    have hW := Lib.hid (hm.out.write pmA _ rfl (by decide))
    have hc1 : ∀ (W : World) (n : Nat), W.cell? ⟨n, 0, none⟩ = some (.int .u8 1) → (convert 249 9 (.slice (some ⟨n, 0, none⟩) 1 1)).run Tryz.prog W = .ok (.string (txt [1])) W := fun W n h => conv_one 1 W n h
    have hc0 : ∀ (W : World) (n : Nat), W.cell? ⟨n, 0, none⟩ = some (.int .u8 0) → (convert 249 9 (.slice (some ⟨n, 0, none⟩) 1 1)).run Tryz.prog W = .ok (.string (txt [0])) W := fun W n h => conv_one 0 W n h
    have hw1 : IntKind.u8.wrap 1 = 1 := by decide
    have hw0 : IntKind.u8.wrap 0 = 0 := by decide
    go_region_held (fun w' => w'.cell? ⟨w.heap.size, 0, none⟩ = some (.int .i64 1) ∧ w'.cell? ⟨w.heap.size, 1, none⟩ = some (.int .i64 1) ∧ w'.cell? ⟨w.heap.size, 2, none⟩ = some (.int .i64 2) ∧ w'.cell? ⟨w.heap.size, 3, none⟩ = some (.int .i64 0) ∧ w'.cell? ⟨w.heap.size, 9, none⟩ = some (.string ⟨#[]⟩) ∧ w'.cell? ⟨w.heap.size, 10, none⟩ = some (.string ⟨#[]⟩) ∧ w'.cell? ⟨w.heap.size, 11, none⟩ = some (.string ⟨#[]⟩) ∧ w'.cell? ⟨w.heap.size, 12, none⟩ = some (.bool false) ∧ w'.cell? ⟨w.heap.size, 13, none⟩ = some (.int .i64 0) ∧ w'.cell? ⟨w.heap.size, 14, none⟩ = some (.slice none 0 0) ∧ w'.cell? ⟨w.heap.size, 15, none⟩ = some (.slice none 0 0) ∧ w'.cell? ⟨w.heap.size, 16, none⟩ = some (.slice none 0 0) ∧ w'.cell? ⟨w.heap.size, 17, none⟩ = some (.slice none 0 0))
      (first
        | (with_reducible refine hS.out _ ?_; (repeat (with_reducible first | exact st_refl _ | refine st_alloc ?_ | refine st_drew ?_ | (apply st_step; assumption))); done)
        | (with_reducible exact hS9.box))
      (first
        | (go_at_call 151
           refine (bool_any _).mono ?_
           rintro r w4 ⟨rfl, rfl⟩)
        | (go_at_call 146
           refine (hW.out _ ?hst).mono ?_
           case hst => ((repeat (with_reducible first | exact st_refl _ | refine st_alloc ?_ | refine st_drew ?_ | (apply st_step; assumption))); done)
           rintro r w9 ⟨rfl, hS9⟩))
    all_goals (go_wp2_with fail; go_meet; exact hS9)
  case rest =>
    replace hcut := Lib.hid hcut
    clear hm
    go_upto_region 6 with fail
    go_cut [] (fun wx => Mid w.heap.size w1 w1.heap.size pmB wx)
    case first =>
      have hS := Lib.hid hcut.out.keep
      have hW := Lib.hid (hcut.out.write [2, 4, 0] _ rfl (by decide))
      go_region_held (fun w' => w'.cell? ⟨w.heap.size, 0, none⟩ = some (.int .i64 1) ∧ w'.cell? ⟨w.heap.size, 1, none⟩ = some (.int .i64 1) ∧ w'.cell? ⟨w.heap.size, 2, none⟩ = some (.int .i64 2) ∧ w'.cell? ⟨w.heap.size, 3, none⟩ = some (.int .i64 0) ∧ w'.cell? ⟨w.heap.size, 9, none⟩ = some (.string ⟨#[]⟩) ∧ w'.cell? ⟨w.heap.size, 10, none⟩ = some (.string ⟨#[]⟩) ∧ w'.cell? ⟨w.heap.size, 11, none⟩ = some (.string ⟨#[]⟩) ∧ w'.cell? ⟨w.heap.size, 12, none⟩ = some (.bool false) ∧ w'.cell? ⟨w.heap.size, 13, none⟩ = some (.int .i64 0) ∧ w'.cell? ⟨w.heap.size, 14, none⟩ = some (.slice none 0 0) ∧ w'.cell? ⟨w.heap.size, 15, none⟩ = some (.slice none 0 0) ∧ w'.cell? ⟨w.heap.size, 16, none⟩ = some (.slice none 0 0) ∧ w'.cell? ⟨w.heap.size, 17, none⟩ = some (.slice none 0 0))
        (first
          | (with_reducible refine hS.out _ ?_; (repeat (with_reducible first | exact st_refl _ | refine st_alloc ?_ | refine st_drew ?_ | (apply st_step; assumption))); done)
          | (with_reducible exact hS9.box))
        (first
          | (go_at_call_of 150 (Value.int .i64 1)
             refine (zig_lit 1 2 (.inr (.inl rfl)) _).mono ?_
             rintro r w4 ⟨rfl, hq4⟩)
          | (go_at_call_of 150 (Value.int .i64 2)
             refine (zig_lit 2 4 (.inr (.inr rfl)) _).mono ?_
             rintro r w5 ⟨rfl, hq5⟩)
          | (go_at_call_of 150 (Value.int .i64 0)
             refine (zig_lit 0 0 (.inl rfl) _).mono ?_
             rintro r w6 ⟨rfl, hq6⟩)
          | (go_at_call 147
             refine (var3_zero 2 4 0 (by decide) (by decide) (by decide) _ 3 _ ?ha ?hb ?hc).mono ?_
             case ha => ((repeat (first | ((with_reducible refine cell_newAt ?_ rfl); simp; done) | (with_reducible refine cell_al ?_) | (with_reducible refine cell_dr ?_) | (with_reducible (apply cell_st; assumption)))); done)
             case hb => ((repeat (first | ((with_reducible refine cell_newAt ?_ rfl); simp; done) | (with_reducible refine cell_al ?_) | (with_reducible refine cell_dr ?_) | (with_reducible (apply cell_st; assumption)))); done)
             case hc => ((repeat (first | ((with_reducible refine cell_newAt ?_ rfl); simp; done) | (with_reducible refine cell_al ?_) | (with_reducible refine cell_dr ?_) | (with_reducible (apply cell_st; assumption)))); done)
             rintro r w7 ⟨rfl, hq7⟩)
          | (go_at_call 146
             refine (hW.out _ ?hst).mono ?_
             case hst => ((repeat (with_reducible first | exact st_refl _ | refine st_alloc ?_ | refine st_drew ?_ | (apply st_step; assumption))); done)
             rintro r w9 ⟨rfl, hS9⟩))
      all_goals (go_wp2_with fail; go_meet; exact hS9)
    case rest =>
      replace hcut := Lib.hid hcut
      go_upto_region 7 with fail
      go_cut [] (fun wx => Mid w.heap.size w1 w1.heap.size (pmC told) wx)
      case first =>
        have htl : (tx [⟨#[]⟩, ⟨#[]⟩, ⟨#[]⟩, txt told]).length ≤ 110000 := tx4_len told hl
        have hz1 : (txt (tx [⟨#[]⟩, ⟨#[]⟩, ⟨#[]⟩, txt told])).size ≤ 110000 := htl
        have hz2 : (txt [0]).size = 1 := rfl
        have hz3 : (txt (tx [⟨#[]⟩, ⟨#[]⟩, ⟨#[]⟩, txt told]) ++ txt [0]).size ≤ 110001 := by rw [ByteArray.size_append]; omega
        have hz4 : (⟨#[]⟩ : ByteArray).size = 0 := rfl
        have hw0 : IntKind.u64.wrap 0 = 0 := by decide
        have hS := Lib.hid hcut.out.keep
        have hW := Lib.hid (hcut.out.write (tx [⟨#[]⟩, ⟨#[]⟩, ⟨#[]⟩, txt told] ++ [0]) (txt (tx [⟨#[]⟩, ⟨#[]⟩, ⟨#[]⟩, txt told]) ++ txt [0] ++ ⟨#[]⟩) (cat_empty _ _) (by rw [List.length_append]; simp [pmB, pmA]; omega))
        go_region_held (fun w' => w'.cell? ⟨w.heap.size, 0, none⟩ = some (.int .i64 1) ∧ w'.cell? ⟨w.heap.size, 1, none⟩ = some (.int .i64 1) ∧ w'.cell? ⟨w.heap.size, 2, none⟩ = some (.int .i64 2) ∧ w'.cell? ⟨w.heap.size, 3, none⟩ = some (.int .i64 0) ∧ w'.cell? ⟨w.heap.size, 9, none⟩ = some (.string ⟨#[]⟩) ∧ w'.cell? ⟨w.heap.size, 10, none⟩ = some (.string ⟨#[]⟩) ∧ w'.cell? ⟨w.heap.size, 11, none⟩ = some (.string ⟨#[]⟩) ∧ w'.cell? ⟨w.heap.size, 12, none⟩ = some (.bool false) ∧ w'.cell? ⟨w.heap.size, 13, none⟩ = some (.int .i64 0) ∧ w'.cell? ⟨w.heap.size, 14, none⟩ = some (.slice none 0 0) ∧ w'.cell? ⟨w.heap.size, 15, none⟩ = some (.slice none 0 0) ∧ w'.cell? ⟨w.heap.size, 16, none⟩ = some (.slice none 0 0) ∧ w'.cell? ⟨w.heap.size, 17, none⟩ = some (.slice none 0 0))
          (first
            | (with_reducible refine hS.out _ ?_; (repeat (with_reducible first | exact st_refl _ | refine st_alloc ?_ | refine st_drew ?_ | (apply st_step; assumption))); done)
            | (with_reducible exact hS9.box))
          (first
            | (go_at_call_of 149 (Value.slice none 0 0)
               refine (text0_any _).mono ?_
               rintro r w4 ⟨rfl, hq4⟩)
            | (go_at_call 149
               refine (text4_any told hl _ 4 _ ?ha ?hb ?hc ?hd).mono ?_
               case ha => ((repeat (first | ((with_reducible refine cell_newAt ?_ rfl); simp; done) | (with_reducible refine cell_al ?_) | (with_reducible refine cell_dr ?_) | (with_reducible (apply cell_st; assumption)))); done)
               case hb => ((repeat (first | ((with_reducible refine cell_newAt ?_ rfl); simp; done) | (with_reducible refine cell_al ?_) | (with_reducible refine cell_dr ?_) | (with_reducible (apply cell_st; assumption)))); done)
               case hc => ((repeat (first | ((with_reducible refine cell_newAt ?_ rfl); simp; done) | (with_reducible refine cell_al ?_) | (with_reducible refine cell_dr ?_) | (with_reducible (apply cell_st; assumption)))); done)
               case hd => ((repeat (first | ((with_reducible refine cell_newAt ?_ rfl); simp; done) | (with_reducible refine cell_al ?_) | (with_reducible refine cell_dr ?_) | (with_reducible (apply cell_st; assumption)))); done)
               rintro r w5 ⟨rfl, hq5⟩)
            | (go_at_call 147
               refine (var1_zero _ 1 _ ?ha).mono ?_
               case ha => ((repeat (first | ((with_reducible refine cell_newAt ?_ rfl); simp; done) | (with_reducible refine cell_al ?_) | (with_reducible refine cell_dr ?_) | (with_reducible (apply cell_st; assumption)))); done)
               rintro r w6 ⟨rfl, hq6⟩)
            | (go_at_call 146
               refine (hW.out _ ?hst).mono ?_
               case hst => ((repeat (with_reducible first | exact st_refl _ | refine st_alloc ?_ | refine st_drew ?_ | (apply st_step; assumption))); done)
               rintro r w9 ⟨rfl, hS9⟩))
        all_goals (go_wp2_with fail; go_meet; exact hS9)
      case rest =>
        replace hcut := Lib.hid hcut
        go_upto_region 8 with fail
        go_cut [] (fun wx => Mid w.heap.size w1 w1.heap.size (pmD told) wx)
        case first =>
          have hz1 : (⟨#[0]⟩ : ByteArray).size = 1 := rfl
          have hz2 : (txt (ck0 ++ ck0)).size = 4 := by kernel_rfl
          have hS := Lib.hid hcut.out.keep
          have hW := Lib.hid (hcut.out.write (0 :: (ck0 ++ ck0)) (⟨#[0]⟩ ++ txt (ck0 ++ ck0)) (txt_append [0] _) (pmC_len told hl))
          go_region_held (fun w' => w'.cell? ⟨w.heap.size, 0, none⟩ = some (.int .i64 1) ∧ w'.cell? ⟨w.heap.size, 1, none⟩ = some (.int .i64 1) ∧ w'.cell? ⟨w.heap.size, 2, none⟩ = some (.int .i64 2) ∧ w'.cell? ⟨w.heap.size, 3, none⟩ = some (.int .i64 0) ∧ w'.cell? ⟨w.heap.size, 9, none⟩ = some (.string ⟨#[]⟩) ∧ w'.cell? ⟨w.heap.size, 10, none⟩ = some (.string ⟨#[]⟩) ∧ w'.cell? ⟨w.heap.size, 11, none⟩ = some (.string ⟨#[]⟩) ∧ w'.cell? ⟨w.heap.size, 12, none⟩ = some (.bool false) ∧ w'.cell? ⟨w.heap.size, 13, none⟩ = some (.int .i64 0) ∧ w'.cell? ⟨w.heap.size, 14, none⟩ = some (.slice none 0 0) ∧ w'.cell? ⟨w.heap.size, 15, none⟩ = some (.slice none 0 0) ∧ w'.cell? ⟨w.heap.size, 16, none⟩ = some (.slice none 0 0) ∧ w'.cell? ⟨w.heap.size, 17, none⟩ = some (.slice none 0 0))
            (first
              | (with_reducible refine hS.out _ ?_; (repeat (with_reducible first | exact st_refl _ | refine st_alloc ?_ | refine st_drew ?_ | (apply st_step; assumption))); done)
              | (with_reducible exact hS9.box))
            (first
              | (go_at_call 300
                 refine (items0_any _).mono ?_
                 rintro r w4 ⟨rfl, hq4⟩)
              | (go_at_call 301
                 refine (clocks0_zero _ 2 _ ?ha ?hb).mono ?_
                 case ha => ((repeat (first | ((with_reducible refine cell_newAt ?_ rfl); simp; done) | (with_reducible refine cell_al ?_) | (with_reducible refine cell_dr ?_) | (with_reducible (apply cell_st; assumption)))); done)
                 case hb => ((repeat (first | ((with_reducible refine cell_newAt ?_ rfl); simp; done) | (with_reducible refine cell_al ?_) | (with_reducible refine cell_dr ?_) | (with_reducible (apply cell_st; assumption)))); done)
                 rintro r w5 ⟨rfl, hq5⟩)
              | (go_at_call 146
                 refine (hW.out _ ?hst).mono ?_
                 case hst => ((repeat (with_reducible first | exact st_refl _ | refine st_alloc ?_ | refine st_drew ?_ | (apply st_step; assumption))); done)
                 rintro r w9 ⟨rfl, hS9⟩))
          all_goals (go_wp2_with fail; go_meet; exact hS9)
        case rest =>
          replace hcut := Lib.hid hcut
          have hpl := pmD_len told hl
          go_wp2_with fail
          refine (builder_string _ _ (pmD told) _ hcut.out.bld (by have := hcut.out.ltb; omega)).mono ?_
          rintro r w10 ⟨rfl, hv10⟩
          have hst10 : Stands w1 w10 := (hcut.out.st).upto (hv10.mono hcut.out.le)
          go_wp2_with fail
          refine (seal_any (txt (pmD told)) w10 (by rw [txt_size]; omega)).mono ?_
          rintro r w11 ⟨rfl, hq11⟩
          go_wp2
          go_ret
          exact ⟨rfl, w1, hR, st_step hq11 hst10⟩
end Go.Proofs.YtckjnglhbjiklaaGreatDoor.Wk
