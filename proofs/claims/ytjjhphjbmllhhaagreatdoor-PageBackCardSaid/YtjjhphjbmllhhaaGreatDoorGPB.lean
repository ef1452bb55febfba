/-
  Part of the proof of a statement of this seat: walks of its functions and the closed run; no condition but those written in each theorem.
-/
import Derived.Test.YtjjhphjbmllhhaaGreatDoorGPA
namespace Go.Proofs.YtjjhphjbmllhhaaGreatDoor.Wk
set_option maxRecDepth 100000
open Go.RowKit Go.VmK Go.NumPure
noncomputable def factsPut1 : List (BinOp × AV × AV × AV) := [(.add, .symStr 5, .symStr 7, .symStr 8), (.add, .symStr 8, .str [1], .symStr 9), (.add, .symStr 9, .symStr 11, .symStr 12)]
noncomputable def consPut1 : List (FuncId × Con) := [(15, .fn (rowFn [([.symStr 0, .symStr 1, .symStr 2, .symStr 3], .symStr 5)])), (17, .ans [([.symInt .i64 4], .symInt .u64 6)]), (16, .fn (rowFn [([.symInt .u64 6], .symStr 7)])), (36, .fn (rowFn [([.symStr 9], .symInt .u32 10)])), (35, .ans [([.symInt .u32 10], .symStr 11)])]
theorem runPut1 (σ0 : Nat → Option Value) : saysVal (.symStr 12) (runF (withFacts (ctx consPut1 []) factsPut1 σ0) 100000 6 [.agg [.symStr 0, .symStr 1, .symStr 2, .symStr 3, .symInt .i64 4, .bool true]] (heap0 40)) = true := by kernel_rfl
theorem put1 {n l h x : ByteArray} {m : Int} (hs : Small n l h x m) (w : World) :
    Calls Tryz.prog 6 #[.agg #[.string n, .string l, .string h, .string x, .int .i64 m, .bool true]] w fun e w' => e = .returned (.string (sealed (txt (cur n l h x m [1])))) ∧ Stands w w' := by
  obtain ⟨hn, hl, hh, hx, hlo, hhi⟩ := hs
  have hlen := cur_len n l h x m [1] hn hl hh hx hlo hhi (Nat.le_refl _)
  have htx : (tx [n, l, h, x]).length ≤ 2000 := by
    have : (cur n l h x m [1]).length = (tx [n, l, h, x]).length + ((vb (zig m)).length + 1) := by simp [cur, lay, tx]; omega
    omega
  have hvb := vb_len (zig_lt hlo hhi)
  let σ0 : Nat → Option Value := fun i => [.string n, .string l, .string h, .string x, .int .i64 m, .string (txt (tx [n, l, h, x])), .int .u64 (zig m), .string (txt (vb (zig m))), .string (txt (tx [n, l, h, x]) ++ txt (vb (zig m))), .string (txt (cur n l h x m [1])), .int .u32 (crc (cur n l h x m [1])), .string (be4s (crc (cur n l h x m [1]))), .string (sealed (txt (cur n l h x m [1])))][i]?
  have F : ∀ f ∈ factsPut1, FactOK Tryz.prog (withFacts (ctx consPut1 []) factsPut1 σ0) f := by
    intro f hf
    simp only [factsPut1, List.mem_cons, List.mem_nil_iff, or_false] at hf
    rcases hf with rfl | rfl | rfl
    · exact fact_cat rfl rfl rfl rfl (by rw [txt_size, txt_size]; omega)
    · exact fact_cat (t := txt [1]) rfl rfl rfl (cur_cat n l h x m 1) (by rw [size_append', txt_size, txt_size, txt_size]; simp only [List.length_cons, List.length_nil]; omega)
    · exact fact_cat rfl rfl rfl rfl (by rw [txt_size, be4s_size]; omega)
  have K : ∀ p ∈ consPut1, ConOK Tryz.prog (Outer w σ0 fun b => b < w.heap.size) p.1 p.2 := by
    intro p hp
    simp only [consPut1, List.mem_cons, List.mem_nil_iff, or_false] at hp
    rcases hp with rfl | rfl | rfl | rfl | rfl
    · refine rowFn_ok fun q hq => ?_
      obtain rfl : q = ([.symStr 0, .symStr 1, .symStr 2, .symStr 3], .symStr 5) := by simpa using hq
      refine ⟨[.string n, .string l, .string h, .string x], _, rfl, rfl, fun w1 bk off cap _ hb hc => ?_⟩
      refine (text_any [n, l, h, x] bk off cap w1 hb (by simp) (by omega) (by intro s hs; simp at hs; rcases hs with rfl | rfl | rfl | rfl <;> omega) (fun j s hj => hc j (.string s) (by
        match j, hj with
        | 0, hj => cases hj; rfl
        | 1, hj => cases hj; rfl
        | 2, hj => cases hj; rfl
        | 3, hj => cases hj; rfl))).mono fun e w' ⟨h1, h2⟩ => ⟨h1, stands_below h2⟩
    · refine ans_ok fun r hr => ?_
      obtain rfl : r = ([.symInt .i64 4], .symInt .u64 6) := by simpa using hr
      exact ⟨_, _, rfl, rfl, fun w1 _ => zig_any m hlo hhi w1⟩
    · exact var_row (n := zig m) rfl rfl (zig_lt hlo hhi)
    · exact crc_row (s := txt (cur n l h x m [1])) rfl rfl (by rw [txt_size]; omega)
    · refine ans_ok fun r hr => ?_
      obtain rfl : r = ([.symInt .u32 10], .symStr 11) := by simpa using hr
      exact ⟨_, _, rfl, rfl, fun w1 _ => four_any _ (crc_lt _) w1⟩
  exact calls_val (withFacts_ok (ctx_ok [] K) rfl rfl (fun _ _ _ h => h.σ) F) mixed (by rw [← runF_eq]; exact runPut1 σ0) (fun i hi => by
    obtain ⟨k, rfl⟩ : ∃ k, i = k + 40 := ⟨i - 40, by have : 40 ≤ i := hi; omega⟩
    rfl) rfl rfl
noncomputable def factsPut0 : List (BinOp × AV × AV × AV) := [(.add, .symStr 5, .symStr 7, .symStr 8), (.add, .symStr 8, .str [0], .symStr 9), (.add, .symStr 9, .symStr 11, .symStr 12)]
noncomputable def consPut0 : List (FuncId × Con) := [(15, .fn (rowFn [([.symStr 0, .symStr 1, .symStr 2, .symStr 3], .symStr 5)])), (17, .ans [([.symInt .i64 4], .symInt .u64 6)]), (16, .fn (rowFn [([.symInt .u64 6], .symStr 7)])), (36, .fn (rowFn [([.symStr 9], .symInt .u32 10)])), (35, .ans [([.symInt .u32 10], .symStr 11)])]
theorem runPut0 (σ0 : Nat → Option Value) : saysVal (.symStr 12) (runF (withFacts (ctx consPut0 []) factsPut0 σ0) 100000 6 [.agg [.symStr 0, .symStr 1, .symStr 2, .symStr 3, .symInt .i64 4, .bool false]] (heap0 40)) = true := by kernel_rfl
theorem put0 {n l h x : ByteArray} {m : Int} (hs : Small n l h x m) (w : World) :
    Calls Tryz.prog 6 #[.agg #[.string n, .string l, .string h, .string x, .int .i64 m, .bool false]] w fun e w' => e = .returned (.string (sealed (txt (cur n l h x m [0])))) ∧ Stands w w' := by
  obtain ⟨hn, hl, hh, hx, hlo, hhi⟩ := hs
  have hlen := cur_len n l h x m [0] hn hl hh hx hlo hhi (Nat.le_refl _)
  have htx : (tx [n, l, h, x]).length ≤ 2000 := by
    have : (cur n l h x m [0]).length = (tx [n, l, h, x]).length + ((vb (zig m)).length + 1) := by simp [cur, lay, tx]; omega
    omega
  have hvb := vb_len (zig_lt hlo hhi)
  let σ0 : Nat → Option Value := fun i => [.string n, .string l, .string h, .string x, .int .i64 m, .string (txt (tx [n, l, h, x])), .int .u64 (zig m), .string (txt (vb (zig m))), .string (txt (tx [n, l, h, x]) ++ txt (vb (zig m))), .string (txt (cur n l h x m [0])), .int .u32 (crc (cur n l h x m [0])), .string (be4s (crc (cur n l h x m [0]))), .string (sealed (txt (cur n l h x m [0])))][i]?
  have F : ∀ f ∈ factsPut0, FactOK Tryz.prog (withFacts (ctx consPut0 []) factsPut0 σ0) f := by
    intro f hf
    simp only [factsPut0, List.mem_cons, List.mem_nil_iff, or_false] at hf
    rcases hf with rfl | rfl | rfl
    · exact fact_cat rfl rfl rfl rfl (by rw [txt_size, txt_size]; omega)
    · exact fact_cat (t := txt [0]) rfl rfl rfl (cur_cat n l h x m 0) (by rw [size_append', txt_size, txt_size, txt_size]; simp only [List.length_cons, List.length_nil]; omega)
    · exact fact_cat rfl rfl rfl rfl (by rw [txt_size, be4s_size]; omega)
  have K : ∀ p ∈ consPut0, ConOK Tryz.prog (Outer w σ0 fun b => b < w.heap.size) p.1 p.2 := by
    intro p hp
    simp only [consPut0, List.mem_cons, List.mem_nil_iff, or_false] at hp
    rcases hp with rfl | rfl | rfl | rfl | rfl
    · refine rowFn_ok fun q hq => ?_
      obtain rfl : q = ([.symStr 0, .symStr 1, .symStr 2, .symStr 3], .symStr 5) := by simpa using hq
      refine ⟨[.string n, .string l, .string h, .string x], _, rfl, rfl, fun w1 bk off cap _ hb hc => ?_⟩
      refine (text_any [n, l, h, x] bk off cap w1 hb (by simp) (by omega) (by intro s hs; simp at hs; rcases hs with rfl | rfl | rfl | rfl <;> omega) (fun j s hj => hc j (.string s) (by
        match j, hj with
        | 0, hj => cases hj; rfl
        | 1, hj => cases hj; rfl
        | 2, hj => cases hj; rfl
        | 3, hj => cases hj; rfl))).mono fun e w' ⟨h1, h2⟩ => ⟨h1, stands_below h2⟩
    · refine ans_ok fun r hr => ?_
      obtain rfl : r = ([.symInt .i64 4], .symInt .u64 6) := by simpa using hr
      exact ⟨_, _, rfl, rfl, fun w1 _ => zig_any m hlo hhi w1⟩
    · exact var_row (n := zig m) rfl rfl (zig_lt hlo hhi)
    · exact crc_row (s := txt (cur n l h x m [0])) rfl rfl (by rw [txt_size]; omega)
    · refine ans_ok fun r hr => ?_
      obtain rfl : r = ([.symInt .u32 10], .symStr 11) := by simpa using hr
      exact ⟨_, _, rfl, rfl, fun w1 _ => four_any _ (crc_lt _) w1⟩
  exact calls_val (withFacts_ok (ctx_ok [] K) rfl rfl (fun _ _ _ h => h.σ) F) mixed (by rw [← runF_eq]; exact runPut0 σ0) (fun i hi => by
    obtain ⟨k, rfl⟩ : ∃ k, i = k + 40 := ⟨i - 40, by have : 40 ≤ i := hi; omega⟩
    rfl) rfl rfl
end Go.Proofs.YtjjhphjbmllhhaaGreatDoor.Wk
