/-
  Part of the proof of a statement of this seat: walks of its functions and the closed run; no condition but those written in each theorem.
-/
import Derived.Test.YtjjhphjbmllhhaaGreatDoorGPA
namespace Go.Proofs.YtjjhphjbmllhhaaGreatDoor.Wk
set_option maxRecDepth 100000
open Go.RowKit Go.VmK Go.NumPure
noncomputable def factsgood0_1 : List (BinOp × AV × AV × AV) := [(.sub, .symLen 12, .int .i64 4, .symInt .i64 13), (.lss, .symInt .i64 13, .int .i64 0, .bool false), (.neq, .symInt .u32 10, .symInt .u32 10, .bool false), (.gtr, .symInt .u64 20, .int .u64 40, .bool true)]
noncomputable def ofactsgood0_1 : List ((Nat × Nat × Nat) × List AV × AV) := [((6, 9, 2), [.symStr 12, .symInt .i64 13], .symStr 9)]
noncomputable def consgood0_1 : List (FuncId × Con) := [(39, .ans [([.symStr 12, .symInt .i64 13], .symInt .u32 10)]), (36, .fn (rowFn [([.symStr 9], .symInt .u32 10)])), (80, .ans [([.symStr 9], .tuple [.symInt .u64 20, .symStr 22, .int .i64 0])]), (43, .ans [([.symInt .u64 6], .symInt .i64 4)]), (21, .ans [([.symStr 0], .symStr 0), ([.symStr 1], .symStr 1), ([.symStr 2], .symStr 2), ([.symStr 3], .symStr 3), ([.symStr 9], .symStr 9)])]
theorem rungood0_1 (σ0 : Nat → Option Value) : saysVal (.tuple [.agg [.str [], .str [], .str [], .str [], .int .i64 0, .bool false], .int .i64 23]) (runF (withAll (ctx consgood0_1 []) factsgood0_1 ofactsgood0_1 σ0 fun _ _ => none) 100000 7 [.symStr 12] (heap0 80)) = true := by kernel_rfl
set_option maxHeartbeats 1600000 in
theorem good0_1 {n l h x : ByteArray} {m : Int} (hs : Small n l h x m) (c0 : ¬ n.size ≤ 40) (w : World) :
    Calls Tryz.prog 7 #[.string (sealed (txt (cur n l h x m [1])))] w fun e w' => e = .returned (.tuple #[.agg #[.string ⟨#[]⟩, .string ⟨#[]⟩, .string ⟨#[]⟩, .string ⟨#[]⟩, .int .i64 0, .bool false], .int .i64 23]) ∧ Stands w w' := by
  obtain ⟨hn, hl, hh, hx, hlo, hhi⟩ := hs
  have hlen := cur_len n l h x m [1] hn hl hh hx hlo hhi (by simp)
  have hlen4 := sealed_size (txt (cur n l h x m [1]))
  let σ0 : Nat → Option Value := fun i => [Value.string n, .string l, .string h, .string x, .int .i64 m, Value.int .i64 0, .int .u64 (zig m), Value.int .i64 0, Value.int .i64 0, .string (txt (cur n l h x m [1])), .int .u32 (crc (cur n l h x m [1]) : Nat), Value.int .i64 0, .string (sealed (txt (cur n l h x m [1]))), .int .i64 ((txt (cur n l h x m [1])).size : Nat), Value.int .i64 0, Value.int .i64 0, Value.int .i64 0, Value.int .i64 0, Value.int .i64 0, Value.int .i64 0, .int .u64 (n.size : Nat), .int .i64 (n.size : Nat), .string (txt (n.data.toList ++ (lay l (lay h (lay x (vb (zig m) ++ [1])))))), .string (txt (lay l (lay h (lay x (vb (zig m) ++ [1]))))), Value.int .i64 0, Value.int .i64 0, Value.int .i64 0, Value.int .i64 0, Value.int .i64 0, Value.int .i64 0, .int .u64 (l.size : Nat), .int .i64 (l.size : Nat), .string (txt (l.data.toList ++ (lay h (lay x (vb (zig m) ++ [1]))))), .string (txt (lay h (lay x (vb (zig m) ++ [1])))), Value.int .i64 0, Value.int .i64 0, Value.int .i64 0, Value.int .i64 0, Value.int .i64 0, Value.int .i64 0, .int .u64 (h.size : Nat), .int .i64 (h.size : Nat), .string (txt (h.data.toList ++ (lay x (vb (zig m) ++ [1])))), .string (txt (lay x (vb (zig m) ++ [1]))), Value.int .i64 0, Value.int .i64 0, Value.int .i64 0, Value.int .i64 0, Value.int .i64 0, Value.int .i64 0, .int .u64 (x.size : Nat), .int .i64 (x.size : Nat), .string (txt (x.data.toList ++ (vb (zig m) ++ [1]))), .string (txt (vb (zig m) ++ [1]))][i]?
  have F : ∀ f ∈ factsgood0_1, FactOK Tryz.prog (withAll (ctx consgood0_1 []) factsgood0_1 ofactsgood0_1 σ0 fun _ _ => none) f := by
    intro f hf
    simp only [factsgood0_1, List.mem_cons, List.mem_nil_iff, or_false] at hf
    rcases hf with rfl | rfl | rfl | rfl
    · exact fact_sub rfl rfl rfl (sub4 hlen4 (by rw [txt_size]; omega))
    · exact fact_lss rfl rfl (not_neg _)
    · exact fact_neq rfl rfl (not_ne _)
    · exact fact_gtr rfl rfl (by first | exact (decide_eq_true (by omega)).symm | exact (decide_eq_true (by simp only [Int.ofNat_eq_natCast]; omega)).symm)
  have G : ∀ f ∈ ofactsgood0_1, OFactOK Tryz.prog (withAll (ctx consgood0_1 []) factsgood0_1 ofactsgood0_1 σ0 fun _ _ => none) f := by
    intro f hf
    simp only [ofactsgood0_1, List.mem_cons, List.mem_nil_iff, or_false] at hf
    subst hf
    exact ofact_slice_hi Tryz.underlying9 rfl rfl (by rw [sealed_pre]; rfl) (by rw [hlen4]; exact Nat.le_add_right _ _)
  have K : ∀ p ∈ consgood0_1, ConOK Tryz.prog (Outer w σ0 fun b => b < w.heap.size) p.1 p.2 := by
    intro p hp
    simp only [consgood0_1, List.mem_cons, List.mem_nil_iff, or_false] at hp
    rcases hp with rfl | rfl | rfl | rfl | rfl
    · refine ans_ok fun r hr => ?_
      obtain rfl : r = ([.symStr 12, .symInt .i64 13], .symInt .u32 10) := by simpa using hr
      refine ⟨_, _, rfl, rfl, fun w1 _ => (get_any (sealed (txt (cur n l h x m [1]))) (txt (cur n l h x m [1])).size (by rw [hlen4]; exact Nat.le_refl _) (by rw [hlen4, txt_size]; omega) w1).mono fun e w2 ⟨h1, h2⟩ => ⟨?_, stay h2⟩⟩
      rw [h1, sealed_rd]
      rfl
    · exact crc_row (s := txt (cur n l h x m [1])) rfl rfl (by rw [txt_size]; omega)
    · refine ans_ok fun r hr => ?_
      simp only [List.mem_cons, List.mem_nil_iff, or_false] at hr
      subst hr
      exact ⟨_, _, rfl, rfl, fun w1 _ => number_any n.size (by omega) (txt (lay n (lay l (lay h (lay x (vb (zig m) ++ [1])))))) (n.data.toList ++ (lay l (lay h (lay x (vb (zig m) ++ [1]))))) (by rw [txt_size]; have := lay_len_0 n l h x m [1]; omega) rfl w1⟩
    · refine ans_ok fun r hr => ?_
      obtain rfl : r = ([.symInt .u64 6], .symInt .i64 4) := by simpa using hr
      exact ⟨_, _, rfl, rfl, fun w1 _ => zag_any m hlo hhi w1⟩
    · refine ans_ok fun r hr => ?_
      simp only [List.mem_cons, List.mem_nil_iff, or_false] at hr
      rcases hr with rfl | rfl | rfl | rfl | rfl
      · exact ⟨_, _, rfl, rfl, fun w1 _ => clone_any n (by first | omega | (rw [txt_size]; omega)) w1⟩
      · exact ⟨_, _, rfl, rfl, fun w1 _ => clone_any l (by first | omega | (rw [txt_size]; omega)) w1⟩
      · exact ⟨_, _, rfl, rfl, fun w1 _ => clone_any h (by first | omega | (rw [txt_size]; omega)) w1⟩
      · exact ⟨_, _, rfl, rfl, fun w1 _ => clone_any x (by first | omega | (rw [txt_size]; omega)) w1⟩
      · exact ⟨_, _, rfl, rfl, fun w1 _ => clone_any (txt (cur n l h x m [1])) (by first | omega | (rw [txt_size]; omega)) w1⟩
  exact calls_val (withAll_ok (ctx_ok [] K) (fun _ _ _ h => h.σ) (fun _ _ _ _ _ _ _ h => by cases h) F G) mixed (by rw [← runF_eq]; exact rungood0_1 σ0) (fun i hi => by
    obtain ⟨k, rfl⟩ : ∃ k, i = k + 80 := ⟨i - 80, by have : 80 ≤ i := hi; omega⟩
    rfl) rfl rfl
noncomputable def factsgood1_1 : List (BinOp × AV × AV × AV) := [(.sub, .symLen 12, .int .i64 4, .symInt .i64 13), (.lss, .symInt .i64 13, .int .i64 0, .bool false), (.neq, .symInt .u32 10, .symInt .u32 10, .bool false), (.gtr, .symInt .u64 20, .int .u64 40, .bool false), (.gtr, .symInt .i64 21, .symLen 22, .bool false), (.gtr, .symInt .u64 30, .int .u64 60, .bool true)]
noncomputable def ofactsgood1_1 : List ((Nat × Nat × Nat) × List AV × AV) := [((6, 9, 2), [.symStr 12, .symInt .i64 13], .symStr 9), ((7, 53, 3), [.symInt .u64 20], .symInt .i64 21), ((6, 9, 2), [.symStr 22, .symInt .i64 21], .symStr 0), ((6, 9, 1), [.symStr 22, .symInt .i64 21], .symStr 23)]
noncomputable def consgood1_1 : List (FuncId × Con) := [(39, .ans [([.symStr 12, .symInt .i64 13], .symInt .u32 10)]), (36, .fn (rowFn [([.symStr 9], .symInt .u32 10)])), (80, .ans [([.symStr 9], .tuple [.symInt .u64 20, .symStr 22, .int .i64 0]), ([.symStr 23], .tuple [.symInt .u64 30, .symStr 32, .int .i64 0])]), (43, .ans [([.symInt .u64 6], .symInt .i64 4)]), (21, .ans [([.symStr 0], .symStr 0), ([.symStr 1], .symStr 1), ([.symStr 2], .symStr 2), ([.symStr 3], .symStr 3), ([.symStr 9], .symStr 9)])]
theorem rungood1_1 (σ0 : Nat → Option Value) : saysVal (.tuple [.agg [.str [], .str [], .str [], .str [], .int .i64 0, .bool false], .int .i64 23]) (runF (withAll (ctx consgood1_1 []) factsgood1_1 ofactsgood1_1 σ0 fun _ _ => none) 100000 7 [.symStr 12] (heap0 80)) = true := by kernel_rfl
set_option maxHeartbeats 1600000 in
theorem good1_1 {n l h x : ByteArray} {m : Int} (hs : Small n l h x m) (c0 : n.size ≤ 40) (c1 : ¬ l.size ≤ 60) (w : World) :
    Calls Tryz.prog 7 #[.string (sealed (txt (cur n l h x m [1])))] w fun e w' => e = .returned (.tuple #[.agg #[.string ⟨#[]⟩, .string ⟨#[]⟩, .string ⟨#[]⟩, .string ⟨#[]⟩, .int .i64 0, .bool false], .int .i64 23]) ∧ Stands w w' := by
  obtain ⟨hn, hl, hh, hx, hlo, hhi⟩ := hs
  have hlen := cur_len n l h x m [1] hn hl hh hx hlo hhi (by simp)
  have hlen4 := sealed_size (txt (cur n l h x m [1]))
  let σ0 : Nat → Option Value := fun i => [Value.string n, .string l, .string h, .string x, .int .i64 m, Value.int .i64 0, .int .u64 (zig m), Value.int .i64 0, Value.int .i64 0, .string (txt (cur n l h x m [1])), .int .u32 (crc (cur n l h x m [1]) : Nat), Value.int .i64 0, .string (sealed (txt (cur n l h x m [1]))), .int .i64 ((txt (cur n l h x m [1])).size : Nat), Value.int .i64 0, Value.int .i64 0, Value.int .i64 0, Value.int .i64 0, Value.int .i64 0, Value.int .i64 0, .int .u64 (n.size : Nat), .int .i64 (n.size : Nat), .string (txt (n.data.toList ++ (lay l (lay h (lay x (vb (zig m) ++ [1])))))), .string (txt (lay l (lay h (lay x (vb (zig m) ++ [1]))))), Value.int .i64 0, Value.int .i64 0, Value.int .i64 0, Value.int .i64 0, Value.int .i64 0, Value.int .i64 0, .int .u64 (l.size : Nat), .int .i64 (l.size : Nat), .string (txt (l.data.toList ++ (lay h (lay x (vb (zig m) ++ [1]))))), .string (txt (lay h (lay x (vb (zig m) ++ [1])))), Value.int .i64 0, Value.int .i64 0, Value.int .i64 0, Value.int .i64 0, Value.int .i64 0, Value.int .i64 0, .int .u64 (h.size : Nat), .int .i64 (h.size : Nat), .string (txt (h.data.toList ++ (lay x (vb (zig m) ++ [1])))), .string (txt (lay x (vb (zig m) ++ [1]))), Value.int .i64 0, Value.int .i64 0, Value.int .i64 0, Value.int .i64 0, Value.int .i64 0, Value.int .i64 0, .int .u64 (x.size : Nat), .int .i64 (x.size : Nat), .string (txt (x.data.toList ++ (vb (zig m) ++ [1]))), .string (txt (vb (zig m) ++ [1]))][i]?
  have F : ∀ f ∈ factsgood1_1, FactOK Tryz.prog (withAll (ctx consgood1_1 []) factsgood1_1 ofactsgood1_1 σ0 fun _ _ => none) f := by
    intro f hf
    simp only [factsgood1_1, List.mem_cons, List.mem_nil_iff, or_false] at hf
    rcases hf with rfl | rfl | rfl | rfl | rfl | rfl
    · exact fact_sub rfl rfl rfl (sub4 hlen4 (by rw [txt_size]; omega))
    · exact fact_lss rfl rfl (not_neg _)
    · exact fact_neq rfl rfl (not_ne _)
    · exact fact_gtr rfl rfl (by first | exact (decide_eq_false (by omega)).symm | exact (decide_eq_false (by simp only [Int.ofNat_eq_natCast]; omega)).symm)
    · exact fact_gtr rfl rfl (gt_len _ _)
    · exact fact_gtr rfl rfl (by first | exact (decide_eq_true (by omega)).symm | exact (decide_eq_true (by simp only [Int.ofNat_eq_natCast]; omega)).symm)
  have G : ∀ f ∈ ofactsgood1_1, OFactOK Tryz.prog (withAll (ctx consgood1_1 []) factsgood1_1 ofactsgood1_1 σ0 fun _ _ => none) f := by
    intro f hf
    simp only [ofactsgood1_1, List.mem_cons, List.mem_nil_iff, or_false] at hf
    rcases hf with rfl | rfl | rfl | rfl
    · exact ofact_slice_hi Tryz.underlying9 rfl rfl (by rw [sealed_pre]; rfl) (by rw [hlen4]; exact Nat.le_add_right _ _)
    · exact ofact_conv Tryz.underlying53 Tryz.underlying3 rfl rfl (wrap_size (by omega))
    · exact ofact_slice_hi Tryz.underlying9 rfl rfl (by rw [extract_head]; rfl) (le_txt _ _)
    · exact ofact_slice_lo Tryz.underlying9 rfl rfl (by rw [extract_tail]; rfl) (le_txt _ _)
  have K : ∀ p ∈ consgood1_1, ConOK Tryz.prog (Outer w σ0 fun b => b < w.heap.size) p.1 p.2 := by
    intro p hp
    simp only [consgood1_1, List.mem_cons, List.mem_nil_iff, or_false] at hp
    rcases hp with rfl | rfl | rfl | rfl | rfl
    · refine ans_ok fun r hr => ?_
      obtain rfl : r = ([.symStr 12, .symInt .i64 13], .symInt .u32 10) := by simpa using hr
      refine ⟨_, _, rfl, rfl, fun w1 _ => (get_any (sealed (txt (cur n l h x m [1]))) (txt (cur n l h x m [1])).size (by rw [hlen4]; exact Nat.le_refl _) (by rw [hlen4, txt_size]; omega) w1).mono fun e w2 ⟨h1, h2⟩ => ⟨?_, stay h2⟩⟩
      rw [h1, sealed_rd]
      rfl
    · exact crc_row (s := txt (cur n l h x m [1])) rfl rfl (by rw [txt_size]; omega)
    · refine ans_ok fun r hr => ?_
      simp only [List.mem_cons, List.mem_nil_iff, or_false] at hr
      rcases hr with rfl | rfl
      · exact ⟨_, _, rfl, rfl, fun w1 _ => number_any n.size (by omega) (txt (lay n (lay l (lay h (lay x (vb (zig m) ++ [1])))))) (n.data.toList ++ (lay l (lay h (lay x (vb (zig m) ++ [1]))))) (by rw [txt_size]; have := lay_len_0 n l h x m [1]; omega) rfl w1⟩
      · exact ⟨_, _, rfl, rfl, fun w1 _ => number_any l.size (by omega) (txt (lay l (lay h (lay x (vb (zig m) ++ [1]))))) (l.data.toList ++ (lay h (lay x (vb (zig m) ++ [1])))) (by rw [txt_size]; have := lay_len_1 n l h x m [1]; omega) rfl w1⟩
    · refine ans_ok fun r hr => ?_
      obtain rfl : r = ([.symInt .u64 6], .symInt .i64 4) := by simpa using hr
      exact ⟨_, _, rfl, rfl, fun w1 _ => zag_any m hlo hhi w1⟩
    · refine ans_ok fun r hr => ?_
      simp only [List.mem_cons, List.mem_nil_iff, or_false] at hr
      rcases hr with rfl | rfl | rfl | rfl | rfl
      · exact ⟨_, _, rfl, rfl, fun w1 _ => clone_any n (by first | omega | (rw [txt_size]; omega)) w1⟩
      · exact ⟨_, _, rfl, rfl, fun w1 _ => clone_any l (by first | omega | (rw [txt_size]; omega)) w1⟩
      · exact ⟨_, _, rfl, rfl, fun w1 _ => clone_any h (by first | omega | (rw [txt_size]; omega)) w1⟩
      · exact ⟨_, _, rfl, rfl, fun w1 _ => clone_any x (by first | omega | (rw [txt_size]; omega)) w1⟩
      · exact ⟨_, _, rfl, rfl, fun w1 _ => clone_any (txt (cur n l h x m [1])) (by first | omega | (rw [txt_size]; omega)) w1⟩
  exact calls_val (withAll_ok (ctx_ok [] K) (fun _ _ _ h => h.σ) (fun _ _ _ _ _ _ _ h => by cases h) F G) mixed (by rw [← runF_eq]; exact rungood1_1 σ0) (fun i hi => by
    obtain ⟨k, rfl⟩ : ∃ k, i = k + 80 := ⟨i - 80, by have : 80 ≤ i := hi; omega⟩
    rfl) rfl rfl
noncomputable def factsgood2_1 : List (BinOp × AV × AV × AV) := [(.sub, .symLen 12, .int .i64 4, .symInt .i64 13), (.lss, .symInt .i64 13, .int .i64 0, .bool false), (.neq, .symInt .u32 10, .symInt .u32 10, .bool false), (.gtr, .symInt .u64 20, .int .u64 40, .bool false), (.gtr, .symInt .i64 21, .symLen 22, .bool false), (.gtr, .symInt .u64 30, .int .u64 60, .bool false), (.gtr, .symInt .i64 31, .symLen 32, .bool false), (.gtr, .symInt .u64 40, .int .u64 60, .bool true)]
noncomputable def ofactsgood2_1 : List ((Nat × Nat × Nat) × List AV × AV) := [((6, 9, 2), [.symStr 12, .symInt .i64 13], .symStr 9), ((7, 53, 3), [.symInt .u64 20], .symInt .i64 21), ((6, 9, 2), [.symStr 22, .symInt .i64 21], .symStr 0), ((6, 9, 1), [.symStr 22, .symInt .i64 21], .symStr 23), ((7, 53, 3), [.symInt .u64 30], .symInt .i64 31), ((6, 9, 2), [.symStr 32, .symInt .i64 31], .symStr 1), ((6, 9, 1), [.symStr 32, .symInt .i64 31], .symStr 33)]
noncomputable def consgood2_1 : List (FuncId × Con) := [(39, .ans [([.symStr 12, .symInt .i64 13], .symInt .u32 10)]), (36, .fn (rowFn [([.symStr 9], .symInt .u32 10)])), (80, .ans [([.symStr 9], .tuple [.symInt .u64 20, .symStr 22, .int .i64 0]), ([.symStr 23], .tuple [.symInt .u64 30, .symStr 32, .int .i64 0]), ([.symStr 33], .tuple [.symInt .u64 40, .symStr 42, .int .i64 0])]), (43, .ans [([.symInt .u64 6], .symInt .i64 4)]), (21, .ans [([.symStr 0], .symStr 0), ([.symStr 1], .symStr 1), ([.symStr 2], .symStr 2), ([.symStr 3], .symStr 3), ([.symStr 9], .symStr 9)])]
theorem rungood2_1 (σ0 : Nat → Option Value) : saysVal (.tuple [.agg [.str [], .str [], .str [], .str [], .int .i64 0, .bool false], .int .i64 23]) (runF (withAll (ctx consgood2_1 []) factsgood2_1 ofactsgood2_1 σ0 fun _ _ => none) 100000 7 [.symStr 12] (heap0 80)) = true := by kernel_rfl
set_option maxHeartbeats 1600000 in
theorem good2_1 {n l h x : ByteArray} {m : Int} (hs : Small n l h x m) (c0 : n.size ≤ 40) (c1 : l.size ≤ 60) (c2 : ¬ h.size ≤ 60) (w : World) :
    Calls Tryz.prog 7 #[.string (sealed (txt (cur n l h x m [1])))] w fun e w' => e = .returned (.tuple #[.agg #[.string ⟨#[]⟩, .string ⟨#[]⟩, .string ⟨#[]⟩, .string ⟨#[]⟩, .int .i64 0, .bool false], .int .i64 23]) ∧ Stands w w' := by
  obtain ⟨hn, hl, hh, hx, hlo, hhi⟩ := hs
  have hlen := cur_len n l h x m [1] hn hl hh hx hlo hhi (by simp)
  have hlen4 := sealed_size (txt (cur n l h x m [1]))
  let σ0 : Nat → Option Value := fun i => [Value.string n, .string l, .string h, .string x, .int .i64 m, Value.int .i64 0, .int .u64 (zig m), Value.int .i64 0, Value.int .i64 0, .string (txt (cur n l h x m [1])), .int .u32 (crc (cur n l h x m [1]) : Nat), Value.int .i64 0, .string (sealed (txt (cur n l h x m [1]))), .int .i64 ((txt (cur n l h x m [1])).size : Nat), Value.int .i64 0, Value.int .i64 0, Value.int .i64 0, Value.int .i64 0, Value.int .i64 0, Value.int .i64 0, .int .u64 (n.size : Nat), .int .i64 (n.size : Nat), .string (txt (n.data.toList ++ (lay l (lay h (lay x (vb (zig m) ++ [1])))))), .string (txt (lay l (lay h (lay x (vb (zig m) ++ [1]))))), Value.int .i64 0, Value.int .i64 0, Value.int .i64 0, Value.int .i64 0, Value.int .i64 0, Value.int .i64 0, .int .u64 (l.size : Nat), .int .i64 (l.size : Nat), .string (txt (l.data.toList ++ (lay h (lay x (vb (zig m) ++ [1]))))), .string (txt (lay h (lay x (vb (zig m) ++ [1])))), Value.int .i64 0, Value.int .i64 0, Value.int .i64 0, Value.int .i64 0, Value.int .i64 0, Value.int .i64 0, .int .u64 (h.size : Nat), .int .i64 (h.size : Nat), .string (txt (h.data.toList ++ (lay x (vb (zig m) ++ [1])))), .string (txt (lay x (vb (zig m) ++ [1]))), Value.int .i64 0, Value.int .i64 0, Value.int .i64 0, Value.int .i64 0, Value.int .i64 0, Value.int .i64 0, .int .u64 (x.size : Nat), .int .i64 (x.size : Nat), .string (txt (x.data.toList ++ (vb (zig m) ++ [1]))), .string (txt (vb (zig m) ++ [1]))][i]?
  have F : ∀ f ∈ factsgood2_1, FactOK Tryz.prog (withAll (ctx consgood2_1 []) factsgood2_1 ofactsgood2_1 σ0 fun _ _ => none) f := by
    intro f hf
    simp only [factsgood2_1, List.mem_cons, List.mem_nil_iff, or_false] at hf
    rcases hf with rfl | rfl | rfl | rfl | rfl | rfl | rfl | rfl
    · exact fact_sub rfl rfl rfl (sub4 hlen4 (by rw [txt_size]; omega))
    · exact fact_lss rfl rfl (not_neg _)
    · exact fact_neq rfl rfl (not_ne _)
    · exact fact_gtr rfl rfl (by first | exact (decide_eq_false (by omega)).symm | exact (decide_eq_false (by simp only [Int.ofNat_eq_natCast]; omega)).symm)
    · exact fact_gtr rfl rfl (gt_len _ _)
    · exact fact_gtr rfl rfl (by first | exact (decide_eq_false (by omega)).symm | exact (decide_eq_false (by simp only [Int.ofNat_eq_natCast]; omega)).symm)
    · exact fact_gtr rfl rfl (gt_len _ _)
    · exact fact_gtr rfl rfl (by first | exact (decide_eq_true (by omega)).symm | exact (decide_eq_true (by simp only [Int.ofNat_eq_natCast]; omega)).symm)
  have G : ∀ f ∈ ofactsgood2_1, OFactOK Tryz.prog (withAll (ctx consgood2_1 []) factsgood2_1 ofactsgood2_1 σ0 fun _ _ => none) f := by
    intro f hf
    simp only [ofactsgood2_1, List.mem_cons, List.mem_nil_iff, or_false] at hf
    rcases hf with rfl | rfl | rfl | rfl | rfl | rfl | rfl
    · exact ofact_slice_hi Tryz.underlying9 rfl rfl (by rw [sealed_pre]; rfl) (by rw [hlen4]; exact Nat.le_add_right _ _)
    · exact ofact_conv Tryz.underlying53 Tryz.underlying3 rfl rfl (wrap_size (by omega))
    · exact ofact_slice_hi Tryz.underlying9 rfl rfl (by rw [extract_head]; rfl) (le_txt _ _)
    · exact ofact_slice_lo Tryz.underlying9 rfl rfl (by rw [extract_tail]; rfl) (le_txt _ _)
    · exact ofact_conv Tryz.underlying53 Tryz.underlying3 rfl rfl (wrap_size (by omega))
    · exact ofact_slice_hi Tryz.underlying9 rfl rfl (by rw [extract_head]; rfl) (le_txt _ _)
    · exact ofact_slice_lo Tryz.underlying9 rfl rfl (by rw [extract_tail]; rfl) (le_txt _ _)
  have K : ∀ p ∈ consgood2_1, ConOK Tryz.prog (Outer w σ0 fun b => b < w.heap.size) p.1 p.2 := by
    intro p hp
    simp only [consgood2_1, List.mem_cons, List.mem_nil_iff, or_false] at hp
    rcases hp with rfl | rfl | rfl | rfl | rfl
    · refine ans_ok fun r hr => ?_
      obtain rfl : r = ([.symStr 12, .symInt .i64 13], .symInt .u32 10) := by simpa using hr
      refine ⟨_, _, rfl, rfl, fun w1 _ => (get_any (sealed (txt (cur n l h x m [1]))) (txt (cur n l h x m [1])).size (by rw [hlen4]; exact Nat.le_refl _) (by rw [hlen4, txt_size]; omega) w1).mono fun e w2 ⟨h1, h2⟩ => ⟨?_, stay h2⟩⟩
      rw [h1, sealed_rd]
      rfl
    · exact crc_row (s := txt (cur n l h x m [1])) rfl rfl (by rw [txt_size]; omega)
    · refine ans_ok fun r hr => ?_
      simp only [List.mem_cons, List.mem_nil_iff, or_false] at hr
      rcases hr with rfl | rfl | rfl
      · exact ⟨_, _, rfl, rfl, fun w1 _ => number_any n.size (by omega) (txt (lay n (lay l (lay h (lay x (vb (zig m) ++ [1])))))) (n.data.toList ++ (lay l (lay h (lay x (vb (zig m) ++ [1]))))) (by rw [txt_size]; have := lay_len_0 n l h x m [1]; omega) rfl w1⟩
      · exact ⟨_, _, rfl, rfl, fun w1 _ => number_any l.size (by omega) (txt (lay l (lay h (lay x (vb (zig m) ++ [1]))))) (l.data.toList ++ (lay h (lay x (vb (zig m) ++ [1])))) (by rw [txt_size]; have := lay_len_1 n l h x m [1]; omega) rfl w1⟩
      · exact ⟨_, _, rfl, rfl, fun w1 _ => number_any h.size (by omega) (txt (lay h (lay x (vb (zig m) ++ [1])))) (h.data.toList ++ (lay x (vb (zig m) ++ [1]))) (by rw [txt_size]; have := lay_len_2 n l h x m [1]; omega) rfl w1⟩
    · refine ans_ok fun r hr => ?_
      obtain rfl : r = ([.symInt .u64 6], .symInt .i64 4) := by simpa using hr
      exact ⟨_, _, rfl, rfl, fun w1 _ => zag_any m hlo hhi w1⟩
    · refine ans_ok fun r hr => ?_
      simp only [List.mem_cons, List.mem_nil_iff, or_false] at hr
      rcases hr with rfl | rfl | rfl | rfl | rfl
      · exact ⟨_, _, rfl, rfl, fun w1 _ => clone_any n (by first | omega | (rw [txt_size]; omega)) w1⟩
      · exact ⟨_, _, rfl, rfl, fun w1 _ => clone_any l (by first | omega | (rw [txt_size]; omega)) w1⟩
      · exact ⟨_, _, rfl, rfl, fun w1 _ => clone_any h (by first | omega | (rw [txt_size]; omega)) w1⟩
      · exact ⟨_, _, rfl, rfl, fun w1 _ => clone_any x (by first | omega | (rw [txt_size]; omega)) w1⟩
      · exact ⟨_, _, rfl, rfl, fun w1 _ => clone_any (txt (cur n l h x m [1])) (by first | omega | (rw [txt_size]; omega)) w1⟩
  exact calls_val (withAll_ok (ctx_ok [] K) (fun _ _ _ h => h.σ) (fun _ _ _ _ _ _ _ h => by cases h) F G) mixed (by rw [← runF_eq]; exact rungood2_1 σ0) (fun i hi => by
    obtain ⟨k, rfl⟩ : ∃ k, i = k + 80 := ⟨i - 80, by have : 80 ≤ i := hi; omega⟩
    rfl) rfl rfl
noncomputable def factsgood3_1 : List (BinOp × AV × AV × AV) := [(.sub, .symLen 12, .int .i64 4, .symInt .i64 13), (.lss, .symInt .i64 13, .int .i64 0, .bool false), (.neq, .symInt .u32 10, .symInt .u32 10, .bool false), (.gtr, .symInt .u64 20, .int .u64 40, .bool false), (.gtr, .symInt .i64 21, .symLen 22, .bool false), (.gtr, .symInt .u64 30, .int .u64 60, .bool false), (.gtr, .symInt .i64 31, .symLen 32, .bool false), (.gtr, .symInt .u64 40, .int .u64 60, .bool false), (.gtr, .symInt .i64 41, .symLen 42, .bool false), (.gtr, .symInt .u64 50, .int .u64 61, .bool true)]
noncomputable def ofactsgood3_1 : List ((Nat × Nat × Nat) × List AV × AV) := [((6, 9, 2), [.symStr 12, .symInt .i64 13], .symStr 9), ((7, 53, 3), [.symInt .u64 20], .symInt .i64 21), ((6, 9, 2), [.symStr 22, .symInt .i64 21], .symStr 0), ((6, 9, 1), [.symStr 22, .symInt .i64 21], .symStr 23), ((7, 53, 3), [.symInt .u64 30], .symInt .i64 31), ((6, 9, 2), [.symStr 32, .symInt .i64 31], .symStr 1), ((6, 9, 1), [.symStr 32, .symInt .i64 31], .symStr 33), ((7, 53, 3), [.symInt .u64 40], .symInt .i64 41), ((6, 9, 2), [.symStr 42, .symInt .i64 41], .symStr 2), ((6, 9, 1), [.symStr 42, .symInt .i64 41], .symStr 43)]
noncomputable def consgood3_1 : List (FuncId × Con) := [(39, .ans [([.symStr 12, .symInt .i64 13], .symInt .u32 10)]), (36, .fn (rowFn [([.symStr 9], .symInt .u32 10)])), (80, .ans [([.symStr 9], .tuple [.symInt .u64 20, .symStr 22, .int .i64 0]), ([.symStr 23], .tuple [.symInt .u64 30, .symStr 32, .int .i64 0]), ([.symStr 33], .tuple [.symInt .u64 40, .symStr 42, .int .i64 0]), ([.symStr 43], .tuple [.symInt .u64 50, .symStr 52, .int .i64 0])]), (43, .ans [([.symInt .u64 6], .symInt .i64 4)]), (21, .ans [([.symStr 0], .symStr 0), ([.symStr 1], .symStr 1), ([.symStr 2], .symStr 2), ([.symStr 3], .symStr 3), ([.symStr 9], .symStr 9)])]
theorem rungood3_1 (σ0 : Nat → Option Value) : saysVal (.tuple [.agg [.str [], .str [], .str [], .str [], .int .i64 0, .bool false], .int .i64 23]) (runF (withAll (ctx consgood3_1 []) factsgood3_1 ofactsgood3_1 σ0 fun _ _ => none) 100000 7 [.symStr 12] (heap0 80)) = true := by kernel_rfl
set_option maxHeartbeats 1600000 in
theorem good3_1 {n l h x : ByteArray} {m : Int} (hs : Small n l h x m) (c0 : n.size ≤ 40) (c1 : l.size ≤ 60) (c2 : h.size ≤ 60) (c3 : ¬ x.size ≤ 61) (w : World) :
    Calls Tryz.prog 7 #[.string (sealed (txt (cur n l h x m [1])))] w fun e w' => e = .returned (.tuple #[.agg #[.string ⟨#[]⟩, .string ⟨#[]⟩, .string ⟨#[]⟩, .string ⟨#[]⟩, .int .i64 0, .bool false], .int .i64 23]) ∧ Stands w w' := by
  obtain ⟨hn, hl, hh, hx, hlo, hhi⟩ := hs
  have hlen := cur_len n l h x m [1] hn hl hh hx hlo hhi (by simp)
  have hlen4 := sealed_size (txt (cur n l h x m [1]))
  let σ0 : Nat → Option Value := fun i => [Value.string n, .string l, .string h, .string x, .int .i64 m, Value.int .i64 0, .int .u64 (zig m), Value.int .i64 0, Value.int .i64 0, .string (txt (cur n l h x m [1])), .int .u32 (crc (cur n l h x m [1]) : Nat), Value.int .i64 0, .string (sealed (txt (cur n l h x m [1]))), .int .i64 ((txt (cur n l h x m [1])).size : Nat), Value.int .i64 0, Value.int .i64 0, Value.int .i64 0, Value.int .i64 0, Value.int .i64 0, Value.int .i64 0, .int .u64 (n.size : Nat), .int .i64 (n.size : Nat), .string (txt (n.data.toList ++ (lay l (lay h (lay x (vb (zig m) ++ [1])))))), .string (txt (lay l (lay h (lay x (vb (zig m) ++ [1]))))), Value.int .i64 0, Value.int .i64 0, Value.int .i64 0, Value.int .i64 0, Value.int .i64 0, Value.int .i64 0, .int .u64 (l.size : Nat), .int .i64 (l.size : Nat), .string (txt (l.data.toList ++ (lay h (lay x (vb (zig m) ++ [1]))))), .string (txt (lay h (lay x (vb (zig m) ++ [1])))), Value.int .i64 0, Value.int .i64 0, Value.int .i64 0, Value.int .i64 0, Value.int .i64 0, Value.int .i64 0, .int .u64 (h.size : Nat), .int .i64 (h.size : Nat), .string (txt (h.data.toList ++ (lay x (vb (zig m) ++ [1])))), .string (txt (lay x (vb (zig m) ++ [1]))), Value.int .i64 0, Value.int .i64 0, Value.int .i64 0, Value.int .i64 0, Value.int .i64 0, Value.int .i64 0, .int .u64 (x.size : Nat), .int .i64 (x.size : Nat), .string (txt (x.data.toList ++ (vb (zig m) ++ [1]))), .string (txt (vb (zig m) ++ [1]))][i]?
  have F : ∀ f ∈ factsgood3_1, FactOK Tryz.prog (withAll (ctx consgood3_1 []) factsgood3_1 ofactsgood3_1 σ0 fun _ _ => none) f := by
    intro f hf
    simp only [factsgood3_1, List.mem_cons, List.mem_nil_iff, or_false] at hf
    rcases hf with rfl | rfl | rfl | rfl | rfl | rfl | rfl | rfl | rfl | rfl
    · exact fact_sub rfl rfl rfl (sub4 hlen4 (by rw [txt_size]; omega))
    · exact fact_lss rfl rfl (not_neg _)
    · exact fact_neq rfl rfl (not_ne _)
    · exact fact_gtr rfl rfl (by first | exact (decide_eq_false (by omega)).symm | exact (decide_eq_false (by simp only [Int.ofNat_eq_natCast]; omega)).symm)
    · exact fact_gtr rfl rfl (gt_len _ _)
    · exact fact_gtr rfl rfl (by first | exact (decide_eq_false (by omega)).symm | exact (decide_eq_false (by simp only [Int.ofNat_eq_natCast]; omega)).symm)
    · exact fact_gtr rfl rfl (gt_len _ _)
    · exact fact_gtr rfl rfl (by first | exact (decide_eq_false (by omega)).symm | exact (decide_eq_false (by simp only [Int.ofNat_eq_natCast]; omega)).symm)
    · exact fact_gtr rfl rfl (gt_len _ _)
    · exact fact_gtr rfl rfl (by first | exact (decide_eq_true (by omega)).symm | exact (decide_eq_true (by simp only [Int.ofNat_eq_natCast]; omega)).symm)
  have G : ∀ f ∈ ofactsgood3_1, OFactOK Tryz.prog (withAll (ctx consgood3_1 []) factsgood3_1 ofactsgood3_1 σ0 fun _ _ => none) f := by
    intro f hf
    simp only [ofactsgood3_1, List.mem_cons, List.mem_nil_iff, or_false] at hf
    rcases hf with rfl | rfl | rfl | rfl | rfl | rfl | rfl | rfl | rfl | rfl
    · exact ofact_slice_hi Tryz.underlying9 rfl rfl (by rw [sealed_pre]; rfl) (by rw [hlen4]; exact Nat.le_add_right _ _)
    · exact ofact_conv Tryz.underlying53 Tryz.underlying3 rfl rfl (wrap_size (by omega))
    · exact ofact_slice_hi Tryz.underlying9 rfl rfl (by rw [extract_head]; rfl) (le_txt _ _)
    · exact ofact_slice_lo Tryz.underlying9 rfl rfl (by rw [extract_tail]; rfl) (le_txt _ _)
    · exact ofact_conv Tryz.underlying53 Tryz.underlying3 rfl rfl (wrap_size (by omega))
    · exact ofact_slice_hi Tryz.underlying9 rfl rfl (by rw [extract_head]; rfl) (le_txt _ _)
    · exact ofact_slice_lo Tryz.underlying9 rfl rfl (by rw [extract_tail]; rfl) (le_txt _ _)
    · exact ofact_conv Tryz.underlying53 Tryz.underlying3 rfl rfl (wrap_size (by omega))
    · exact ofact_slice_hi Tryz.underlying9 rfl rfl (by rw [extract_head]; rfl) (le_txt _ _)
    · exact ofact_slice_lo Tryz.underlying9 rfl rfl (by rw [extract_tail]; rfl) (le_txt _ _)
  have K : ∀ p ∈ consgood3_1, ConOK Tryz.prog (Outer w σ0 fun b => b < w.heap.size) p.1 p.2 := by
    intro p hp
    simp only [consgood3_1, List.mem_cons, List.mem_nil_iff, or_false] at hp
    rcases hp with rfl | rfl | rfl | rfl | rfl
    · refine ans_ok fun r hr => ?_
      obtain rfl : r = ([.symStr 12, .symInt .i64 13], .symInt .u32 10) := by simpa using hr
      refine ⟨_, _, rfl, rfl, fun w1 _ => (get_any (sealed (txt (cur n l h x m [1]))) (txt (cur n l h x m [1])).size (by rw [hlen4]; exact Nat.le_refl _) (by rw [hlen4, txt_size]; omega) w1).mono fun e w2 ⟨h1, h2⟩ => ⟨?_, stay h2⟩⟩
      rw [h1, sealed_rd]
      rfl
    · exact crc_row (s := txt (cur n l h x m [1])) rfl rfl (by rw [txt_size]; omega)
    · refine ans_ok fun r hr => ?_
      simp only [List.mem_cons, List.mem_nil_iff, or_false] at hr
      rcases hr with rfl | rfl | rfl | rfl
      · exact ⟨_, _, rfl, rfl, fun w1 _ => number_any n.size (by omega) (txt (lay n (lay l (lay h (lay x (vb (zig m) ++ [1])))))) (n.data.toList ++ (lay l (lay h (lay x (vb (zig m) ++ [1]))))) (by rw [txt_size]; have := lay_len_0 n l h x m [1]; omega) rfl w1⟩
      · exact ⟨_, _, rfl, rfl, fun w1 _ => number_any l.size (by omega) (txt (lay l (lay h (lay x (vb (zig m) ++ [1]))))) (l.data.toList ++ (lay h (lay x (vb (zig m) ++ [1])))) (by rw [txt_size]; have := lay_len_1 n l h x m [1]; omega) rfl w1⟩
      · exact ⟨_, _, rfl, rfl, fun w1 _ => number_any h.size (by omega) (txt (lay h (lay x (vb (zig m) ++ [1])))) (h.data.toList ++ (lay x (vb (zig m) ++ [1]))) (by rw [txt_size]; have := lay_len_2 n l h x m [1]; omega) rfl w1⟩
      · exact ⟨_, _, rfl, rfl, fun w1 _ => number_any x.size (by omega) (txt (lay x (vb (zig m) ++ [1]))) (x.data.toList ++ (vb (zig m) ++ [1])) (by rw [txt_size]; have := lay_len_3 n l h x m [1]; omega) rfl w1⟩
    · refine ans_ok fun r hr => ?_
      obtain rfl : r = ([.symInt .u64 6], .symInt .i64 4) := by simpa using hr
      exact ⟨_, _, rfl, rfl, fun w1 _ => zag_any m hlo hhi w1⟩
    · refine ans_ok fun r hr => ?_
      simp only [List.mem_cons, List.mem_nil_iff, or_false] at hr
      rcases hr with rfl | rfl | rfl | rfl | rfl
      · exact ⟨_, _, rfl, rfl, fun w1 _ => clone_any n (by first | omega | (rw [txt_size]; omega)) w1⟩
      · exact ⟨_, _, rfl, rfl, fun w1 _ => clone_any l (by first | omega | (rw [txt_size]; omega)) w1⟩
      · exact ⟨_, _, rfl, rfl, fun w1 _ => clone_any h (by first | omega | (rw [txt_size]; omega)) w1⟩
      · exact ⟨_, _, rfl, rfl, fun w1 _ => clone_any x (by first | omega | (rw [txt_size]; omega)) w1⟩
      · exact ⟨_, _, rfl, rfl, fun w1 _ => clone_any (txt (cur n l h x m [1])) (by first | omega | (rw [txt_size]; omega)) w1⟩
  exact calls_val (withAll_ok (ctx_ok [] K) (fun _ _ _ h => h.σ) (fun _ _ _ _ _ _ _ h => by cases h) F G) mixed (by rw [← runF_eq]; exact rungood3_1 σ0) (fun i hi => by
    obtain ⟨k, rfl⟩ : ∃ k, i = k + 80 := ⟨i - 80, by have : 80 ≤ i := hi; omega⟩
    rfl) rfl rfl
noncomputable def factsgood4_1 : List (BinOp × AV × AV × AV) := [(.sub, .symLen 12, .int .i64 4, .symInt .i64 13), (.lss, .symInt .i64 13, .int .i64 0, .bool false), (.neq, .symInt .u32 10, .symInt .u32 10, .bool false), (.gtr, .symInt .u64 20, .int .u64 40, .bool false), (.gtr, .symInt .i64 21, .symLen 22, .bool false), (.gtr, .symInt .u64 30, .int .u64 60, .bool false), (.gtr, .symInt .i64 31, .symLen 32, .bool false), (.gtr, .symInt .u64 40, .int .u64 60, .bool false), (.gtr, .symInt .i64 41, .symLen 42, .bool false), (.gtr, .symInt .u64 50, .int .u64 61, .bool false), (.gtr, .symInt .i64 51, .symLen 52, .bool false), (.neq, .symStr 0, .str [], .bool false), (.leq, .symLen 0, .int .i64 40, .bool true)]
noncomputable def ofactsgood4_1 : List ((Nat × Nat × Nat) × List AV × AV) := [((6, 9, 2), [.symStr 12, .symInt .i64 13], .symStr 9), ((7, 53, 3), [.symInt .u64 20], .symInt .i64 21), ((6, 9, 2), [.symStr 22, .symInt .i64 21], .symStr 0), ((6, 9, 1), [.symStr 22, .symInt .i64 21], .symStr 23), ((7, 53, 3), [.symInt .u64 30], .symInt .i64 31), ((6, 9, 2), [.symStr 32, .symInt .i64 31], .symStr 1), ((6, 9, 1), [.symStr 32, .symInt .i64 31], .symStr 33), ((7, 53, 3), [.symInt .u64 40], .symInt .i64 41), ((6, 9, 2), [.symStr 42, .symInt .i64 41], .symStr 2), ((6, 9, 1), [.symStr 42, .symInt .i64 41], .symStr 43), ((7, 53, 3), [.symInt .u64 50], .symInt .i64 51), ((6, 9, 2), [.symStr 52, .symInt .i64 51], .symStr 3), ((6, 9, 1), [.symStr 52, .symInt .i64 51], .symStr 53)]
noncomputable def consgood4_1 : List (FuncId × Con) := [(39, .ans [([.symStr 12, .symInt .i64 13], .symInt .u32 10)]), (36, .fn (rowFn [([.symStr 9], .symInt .u32 10)])), (80, .ans [([.symStr 9], .tuple [.symInt .u64 20, .symStr 22, .int .i64 0]), ([.symStr 23], .tuple [.symInt .u64 30, .symStr 32, .int .i64 0]), ([.symStr 33], .tuple [.symInt .u64 40, .symStr 42, .int .i64 0]), ([.symStr 43], .tuple [.symInt .u64 50, .symStr 52, .int .i64 0]), ([.symStr 53], .tuple [.symInt .u64 6, .str [1], .int .i64 0])]), (43, .ans [([.symInt .u64 6], .symInt .i64 4)]), (21, .ans [([.symStr 0], .symStr 0), ([.symStr 1], .symStr 1), ([.symStr 2], .symStr 2), ([.symStr 3], .symStr 3), ([.symStr 9], .symStr 9)])]
theorem rungood4_1 (σ0 : Nat → Option Value) : saysVal (.tuple [.agg [.str [], .str [], .str [], .str [], .int .i64 0, .bool false], .int .i64 23]) (runF (withAll (ctx consgood4_1 []) factsgood4_1 ofactsgood4_1 σ0 fun _ _ => none) 100000 7 [.symStr 12] (heap0 80)) = true := by kernel_rfl
set_option maxHeartbeats 1600000 in
theorem good4_1 {n l h x : ByteArray} {m : Int} (hs : Small n l h x m) (c0 : n.size ≤ 40) (c1 : l.size ≤ 60) (c2 : h.size ≤ 60) (c3 : x.size ≤ 61) (c4 : ¬ 1 ≤ n.size) (w : World) :
    Calls Tryz.prog 7 #[.string (sealed (txt (cur n l h x m [1])))] w fun e w' => e = .returned (.tuple #[.agg #[.string ⟨#[]⟩, .string ⟨#[]⟩, .string ⟨#[]⟩, .string ⟨#[]⟩, .int .i64 0, .bool false], .int .i64 23]) ∧ Stands w w' := by
  obtain ⟨hn, hl, hh, hx, hlo, hhi⟩ := hs
  have hlen := cur_len n l h x m [1] hn hl hh hx hlo hhi (by simp)
  have hlen4 := sealed_size (txt (cur n l h x m [1]))
  let σ0 : Nat → Option Value := fun i => [Value.string n, .string l, .string h, .string x, .int .i64 m, Value.int .i64 0, .int .u64 (zig m), Value.int .i64 0, Value.int .i64 0, .string (txt (cur n l h x m [1])), .int .u32 (crc (cur n l h x m [1]) : Nat), Value.int .i64 0, .string (sealed (txt (cur n l h x m [1]))), .int .i64 ((txt (cur n l h x m [1])).size : Nat), Value.int .i64 0, Value.int .i64 0, Value.int .i64 0, Value.int .i64 0, Value.int .i64 0, Value.int .i64 0, .int .u64 (n.size : Nat), .int .i64 (n.size : Nat), .string (txt (n.data.toList ++ (lay l (lay h (lay x (vb (zig m) ++ [1])))))), .string (txt (lay l (lay h (lay x (vb (zig m) ++ [1]))))), Value.int .i64 0, Value.int .i64 0, Value.int .i64 0, Value.int .i64 0, Value.int .i64 0, Value.int .i64 0, .int .u64 (l.size : Nat), .int .i64 (l.size : Nat), .string (txt (l.data.toList ++ (lay h (lay x (vb (zig m) ++ [1]))))), .string (txt (lay h (lay x (vb (zig m) ++ [1])))), Value.int .i64 0, Value.int .i64 0, Value.int .i64 0, Value.int .i64 0, Value.int .i64 0, Value.int .i64 0, .int .u64 (h.size : Nat), .int .i64 (h.size : Nat), .string (txt (h.data.toList ++ (lay x (vb (zig m) ++ [1])))), .string (txt (lay x (vb (zig m) ++ [1]))), Value.int .i64 0, Value.int .i64 0, Value.int .i64 0, Value.int .i64 0, Value.int .i64 0, Value.int .i64 0, .int .u64 (x.size : Nat), .int .i64 (x.size : Nat), .string (txt (x.data.toList ++ (vb (zig m) ++ [1]))), .string (txt (vb (zig m) ++ [1]))][i]?
  have F : ∀ f ∈ factsgood4_1, FactOK Tryz.prog (withAll (ctx consgood4_1 []) factsgood4_1 ofactsgood4_1 σ0 fun _ _ => none) f := by
    intro f hf
    simp only [factsgood4_1, List.mem_cons, List.mem_nil_iff, or_false] at hf
    rcases hf with rfl | rfl | rfl | rfl | rfl | rfl | rfl | rfl | rfl | rfl | rfl | rfl | rfl
    · exact fact_sub rfl rfl rfl (sub4 hlen4 (by rw [txt_size]; omega))
    · exact fact_lss rfl rfl (not_neg _)
    · exact fact_neq rfl rfl (not_ne _)
    · exact fact_gtr rfl rfl (by first | exact (decide_eq_false (by omega)).symm | exact (decide_eq_false (by simp only [Int.ofNat_eq_natCast]; omega)).symm)
    · exact fact_gtr rfl rfl (gt_len _ _)
    · exact fact_gtr rfl rfl (by first | exact (decide_eq_false (by omega)).symm | exact (decide_eq_false (by simp only [Int.ofNat_eq_natCast]; omega)).symm)
    · exact fact_gtr rfl rfl (gt_len _ _)
    · exact fact_gtr rfl rfl (by first | exact (decide_eq_false (by omega)).symm | exact (decide_eq_false (by simp only [Int.ofNat_eq_natCast]; omega)).symm)
    · exact fact_gtr rfl rfl (gt_len _ _)
    · exact fact_gtr rfl rfl (by first | exact (decide_eq_false (by omega)).symm | exact (decide_eq_false (by simp only [Int.ofNat_eq_natCast]; omega)).symm)
    · exact fact_gtr rfl rfl (gt_len _ _)
    · exact fact_neq_empty rfl (by first | exact (decide_eq_true (by omega)).symm | exact (decide_eq_false (by omega)).symm)
    · exact fact_leq rfl rfl (by first | exact (decide_eq_true (by omega)).symm | exact (decide_eq_true (by simp only [Int.ofNat_eq_natCast]; omega)).symm)
  have G : ∀ f ∈ ofactsgood4_1, OFactOK Tryz.prog (withAll (ctx consgood4_1 []) factsgood4_1 ofactsgood4_1 σ0 fun _ _ => none) f := by
    intro f hf
    simp only [ofactsgood4_1, List.mem_cons, List.mem_nil_iff, or_false] at hf
    rcases hf with rfl | rfl | rfl | rfl | rfl | rfl | rfl | rfl | rfl | rfl | rfl | rfl | rfl
    · exact ofact_slice_hi Tryz.underlying9 rfl rfl (by rw [sealed_pre]; rfl) (by rw [hlen4]; exact Nat.le_add_right _ _)
    · exact ofact_conv Tryz.underlying53 Tryz.underlying3 rfl rfl (wrap_size (by omega))
    · exact ofact_slice_hi Tryz.underlying9 rfl rfl (by rw [extract_head]; rfl) (le_txt _ _)
    · exact ofact_slice_lo Tryz.underlying9 rfl rfl (by rw [extract_tail]; rfl) (le_txt _ _)
    · exact ofact_conv Tryz.underlying53 Tryz.underlying3 rfl rfl (wrap_size (by omega))
    · exact ofact_slice_hi Tryz.underlying9 rfl rfl (by rw [extract_head]; rfl) (le_txt _ _)
    · exact ofact_slice_lo Tryz.underlying9 rfl rfl (by rw [extract_tail]; rfl) (le_txt _ _)
    · exact ofact_conv Tryz.underlying53 Tryz.underlying3 rfl rfl (wrap_size (by omega))
    · exact ofact_slice_hi Tryz.underlying9 rfl rfl (by rw [extract_head]; rfl) (le_txt _ _)
    · exact ofact_slice_lo Tryz.underlying9 rfl rfl (by rw [extract_tail]; rfl) (le_txt _ _)
    · exact ofact_conv Tryz.underlying53 Tryz.underlying3 rfl rfl (wrap_size (by omega))
    · exact ofact_slice_hi Tryz.underlying9 rfl rfl (by rw [extract_head]; rfl) (le_txt _ _)
    · exact ofact_slice_lo Tryz.underlying9 rfl rfl (by rw [extract_tail]; rfl) (le_txt _ _)
  have K : ∀ p ∈ consgood4_1, ConOK Tryz.prog (Outer w σ0 fun b => b < w.heap.size) p.1 p.2 := by
    intro p hp
    simp only [consgood4_1, List.mem_cons, List.mem_nil_iff, or_false] at hp
    rcases hp with rfl | rfl | rfl | rfl | rfl
    · refine ans_ok fun r hr => ?_
      obtain rfl : r = ([.symStr 12, .symInt .i64 13], .symInt .u32 10) := by simpa using hr
      refine ⟨_, _, rfl, rfl, fun w1 _ => (get_any (sealed (txt (cur n l h x m [1]))) (txt (cur n l h x m [1])).size (by rw [hlen4]; exact Nat.le_refl _) (by rw [hlen4, txt_size]; omega) w1).mono fun e w2 ⟨h1, h2⟩ => ⟨?_, stay h2⟩⟩
      rw [h1, sealed_rd]
      rfl
    · exact crc_row (s := txt (cur n l h x m [1])) rfl rfl (by rw [txt_size]; omega)
    · refine ans_ok fun r hr => ?_
      simp only [List.mem_cons, List.mem_nil_iff, or_false] at hr
      rcases hr with rfl | rfl | rfl | rfl | rfl
      · exact ⟨_, _, rfl, rfl, fun w1 _ => number_any n.size (by omega) (txt (lay n (lay l (lay h (lay x (vb (zig m) ++ [1])))))) (n.data.toList ++ (lay l (lay h (lay x (vb (zig m) ++ [1]))))) (by rw [txt_size]; have := lay_len_0 n l h x m [1]; omega) rfl w1⟩
      · exact ⟨_, _, rfl, rfl, fun w1 _ => number_any l.size (by omega) (txt (lay l (lay h (lay x (vb (zig m) ++ [1]))))) (l.data.toList ++ (lay h (lay x (vb (zig m) ++ [1])))) (by rw [txt_size]; have := lay_len_1 n l h x m [1]; omega) rfl w1⟩
      · exact ⟨_, _, rfl, rfl, fun w1 _ => number_any h.size (by omega) (txt (lay h (lay x (vb (zig m) ++ [1])))) (h.data.toList ++ (lay x (vb (zig m) ++ [1]))) (by rw [txt_size]; have := lay_len_2 n l h x m [1]; omega) rfl w1⟩
      · exact ⟨_, _, rfl, rfl, fun w1 _ => number_any x.size (by omega) (txt (lay x (vb (zig m) ++ [1]))) (x.data.toList ++ (vb (zig m) ++ [1])) (by rw [txt_size]; have := lay_len_3 n l h x m [1]; omega) rfl w1⟩
      · exact ⟨_, _, rfl, rfl, fun w1 _ => number_any (zig m) (zig_lt hlo hhi) (txt (vb (zig m) ++ [1])) [1] (by rw [txt_size]; have := lay_len_4 n l h x m [1]; omega) rfl w1⟩
    · refine ans_ok fun r hr => ?_
      obtain rfl : r = ([.symInt .u64 6], .symInt .i64 4) := by simpa using hr
      exact ⟨_, _, rfl, rfl, fun w1 _ => zag_any m hlo hhi w1⟩
    · refine ans_ok fun r hr => ?_
      simp only [List.mem_cons, List.mem_nil_iff, or_false] at hr
      rcases hr with rfl | rfl | rfl | rfl | rfl
      · exact ⟨_, _, rfl, rfl, fun w1 _ => clone_any n (by first | omega | (rw [txt_size]; omega)) w1⟩
      · exact ⟨_, _, rfl, rfl, fun w1 _ => clone_any l (by first | omega | (rw [txt_size]; omega)) w1⟩
      · exact ⟨_, _, rfl, rfl, fun w1 _ => clone_any h (by first | omega | (rw [txt_size]; omega)) w1⟩
      · exact ⟨_, _, rfl, rfl, fun w1 _ => clone_any x (by first | omega | (rw [txt_size]; omega)) w1⟩
      · exact ⟨_, _, rfl, rfl, fun w1 _ => clone_any (txt (cur n l h x m [1])) (by first | omega | (rw [txt_size]; omega)) w1⟩
  exact calls_val (withAll_ok (ctx_ok [] K) (fun _ _ _ h => h.σ) (fun _ _ _ _ _ _ _ h => by cases h) F G) mixed (by rw [← runF_eq]; exact rungood4_1 σ0) (fun i hi => by
    obtain ⟨k, rfl⟩ : ∃ k, i = k + 80 := ⟨i - 80, by have : 80 ≤ i := hi; omega⟩
    rfl) rfl rfl
noncomputable def factsgood5_1 : List (BinOp × AV × AV × AV) := [(.sub, .symLen 12, .int .i64 4, .symInt .i64 13), (.lss, .symInt .i64 13, .int .i64 0, .bool false), (.neq, .symInt .u32 10, .symInt .u32 10, .bool false), (.gtr, .symInt .u64 20, .int .u64 40, .bool false), (.gtr, .symInt .i64 21, .symLen 22, .bool false), (.gtr, .symInt .u64 30, .int .u64 60, .bool false), (.gtr, .symInt .i64 31, .symLen 32, .bool false), (.gtr, .symInt .u64 40, .int .u64 60, .bool false), (.gtr, .symInt .i64 41, .symLen 42, .bool false), (.gtr, .symInt .u64 50, .int .u64 61, .bool false), (.gtr, .symInt .i64 51, .symLen 52, .bool false), (.neq, .symStr 0, .str [], .bool true), (.leq, .symLen 0, .int .i64 40, .bool true), (.leq, .symLen 1, .int .i64 60, .bool true), (.leq, .symLen 2, .int .i64 60, .bool true), (.geq, .symInt .i64 4, .int .i64 1, .bool false)]
noncomputable def ofactsgood5_1 : List ((Nat × Nat × Nat) × List AV × AV) := [((6, 9, 2), [.symStr 12, .symInt .i64 13], .symStr 9), ((7, 53, 3), [.symInt .u64 20], .symInt .i64 21), ((6, 9, 2), [.symStr 22, .symInt .i64 21], .symStr 0), ((6, 9, 1), [.symStr 22, .symInt .i64 21], .symStr 23), ((7, 53, 3), [.symInt .u64 30], .symInt .i64 31), ((6, 9, 2), [.symStr 32, .symInt .i64 31], .symStr 1), ((6, 9, 1), [.symStr 32, .symInt .i64 31], .symStr 33), ((7, 53, 3), [.symInt .u64 40], .symInt .i64 41), ((6, 9, 2), [.symStr 42, .symInt .i64 41], .symStr 2), ((6, 9, 1), [.symStr 42, .symInt .i64 41], .symStr 43), ((7, 53, 3), [.symInt .u64 50], .symInt .i64 51), ((6, 9, 2), [.symStr 52, .symInt .i64 51], .symStr 3), ((6, 9, 1), [.symStr 52, .symInt .i64 51], .symStr 53)]
noncomputable def consgood5_1 : List (FuncId × Con) := [(39, .ans [([.symStr 12, .symInt .i64 13], .symInt .u32 10)]), (36, .fn (rowFn [([.symStr 9], .symInt .u32 10)])), (80, .ans [([.symStr 9], .tuple [.symInt .u64 20, .symStr 22, .int .i64 0]), ([.symStr 23], .tuple [.symInt .u64 30, .symStr 32, .int .i64 0]), ([.symStr 33], .tuple [.symInt .u64 40, .symStr 42, .int .i64 0]), ([.symStr 43], .tuple [.symInt .u64 50, .symStr 52, .int .i64 0]), ([.symStr 53], .tuple [.symInt .u64 6, .str [1], .int .i64 0])]), (43, .ans [([.symInt .u64 6], .symInt .i64 4)]), (21, .ans [([.symStr 0], .symStr 0), ([.symStr 1], .symStr 1), ([.symStr 2], .symStr 2), ([.symStr 3], .symStr 3), ([.symStr 9], .symStr 9)])]
theorem rungood5_1 (σ0 : Nat → Option Value) : saysVal (.tuple [.agg [.str [], .str [], .str [], .str [], .int .i64 0, .bool false], .int .i64 23]) (runF (withAll (ctx consgood5_1 []) factsgood5_1 ofactsgood5_1 σ0 fun _ _ => none) 100000 7 [.symStr 12] (heap0 80)) = true := by kernel_rfl
set_option maxHeartbeats 1600000 in
theorem good5_1 {n l h x : ByteArray} {m : Int} (hs : Small n l h x m) (c0 : n.size ≤ 40) (c1 : l.size ≤ 60) (c2 : h.size ≤ 60) (c3 : x.size ≤ 61) (c4 : 1 ≤ n.size) (c5 : ¬ 1 ≤ m) (w : World) :
    Calls Tryz.prog 7 #[.string (sealed (txt (cur n l h x m [1])))] w fun e w' => e = .returned (.tuple #[.agg #[.string ⟨#[]⟩, .string ⟨#[]⟩, .string ⟨#[]⟩, .string ⟨#[]⟩, .int .i64 0, .bool false], .int .i64 23]) ∧ Stands w w' := by
  obtain ⟨hn, hl, hh, hx, hlo, hhi⟩ := hs
  have hlen := cur_len n l h x m [1] hn hl hh hx hlo hhi (by simp)
  have hlen4 := sealed_size (txt (cur n l h x m [1]))
  let σ0 : Nat → Option Value := fun i => [Value.string n, .string l, .string h, .string x, .int .i64 m, Value.int .i64 0, .int .u64 (zig m), Value.int .i64 0, Value.int .i64 0, .string (txt (cur n l h x m [1])), .int .u32 (crc (cur n l h x m [1]) : Nat), Value.int .i64 0, .string (sealed (txt (cur n l h x m [1]))), .int .i64 ((txt (cur n l h x m [1])).size : Nat), Value.int .i64 0, Value.int .i64 0, Value.int .i64 0, Value.int .i64 0, Value.int .i64 0, Value.int .i64 0, .int .u64 (n.size : Nat), .int .i64 (n.size : Nat), .string (txt (n.data.toList ++ (lay l (lay h (lay x (vb (zig m) ++ [1])))))), .string (txt (lay l (lay h (lay x (vb (zig m) ++ [1]))))), Value.int .i64 0, Value.int .i64 0, Value.int .i64 0, Value.int .i64 0, Value.int .i64 0, Value.int .i64 0, .int .u64 (l.size : Nat), .int .i64 (l.size : Nat), .string (txt (l.data.toList ++ (lay h (lay x (vb (zig m) ++ [1]))))), .string (txt (lay h (lay x (vb (zig m) ++ [1])))), Value.int .i64 0, Value.int .i64 0, Value.int .i64 0, Value.int .i64 0, Value.int .i64 0, Value.int .i64 0, .int .u64 (h.size : Nat), .int .i64 (h.size : Nat), .string (txt (h.data.toList ++ (lay x (vb (zig m) ++ [1])))), .string (txt (lay x (vb (zig m) ++ [1]))), Value.int .i64 0, Value.int .i64 0, Value.int .i64 0, Value.int .i64 0, Value.int .i64 0, Value.int .i64 0, .int .u64 (x.size : Nat), .int .i64 (x.size : Nat), .string (txt (x.data.toList ++ (vb (zig m) ++ [1]))), .string (txt (vb (zig m) ++ [1]))][i]?
  have F : ∀ f ∈ factsgood5_1, FactOK Tryz.prog (withAll (ctx consgood5_1 []) factsgood5_1 ofactsgood5_1 σ0 fun _ _ => none) f := by
    intro f hf
    simp only [factsgood5_1, List.mem_cons, List.mem_nil_iff, or_false] at hf
    rcases hf with rfl | rfl | rfl | rfl | rfl | rfl | rfl | rfl | rfl | rfl | rfl | rfl | rfl | rfl | rfl | rfl
    · exact fact_sub rfl rfl rfl (sub4 hlen4 (by rw [txt_size]; omega))
    · exact fact_lss rfl rfl (not_neg _)
    · exact fact_neq rfl rfl (not_ne _)
    · exact fact_gtr rfl rfl (by first | exact (decide_eq_false (by omega)).symm | exact (decide_eq_false (by simp only [Int.ofNat_eq_natCast]; omega)).symm)
    · exact fact_gtr rfl rfl (gt_len _ _)
    · exact fact_gtr rfl rfl (by first | exact (decide_eq_false (by omega)).symm | exact (decide_eq_false (by simp only [Int.ofNat_eq_natCast]; omega)).symm)
    · exact fact_gtr rfl rfl (gt_len _ _)
    · exact fact_gtr rfl rfl (by first | exact (decide_eq_false (by omega)).symm | exact (decide_eq_false (by simp only [Int.ofNat_eq_natCast]; omega)).symm)
    · exact fact_gtr rfl rfl (gt_len _ _)
    · exact fact_gtr rfl rfl (by first | exact (decide_eq_false (by omega)).symm | exact (decide_eq_false (by simp only [Int.ofNat_eq_natCast]; omega)).symm)
    · exact fact_gtr rfl rfl (gt_len _ _)
    · exact fact_neq_empty rfl (by first | exact (decide_eq_true (by omega)).symm | exact (decide_eq_false (by omega)).symm)
    · exact fact_leq rfl rfl (by first | exact (decide_eq_true (by omega)).symm | exact (decide_eq_true (by simp only [Int.ofNat_eq_natCast]; omega)).symm)
    · exact fact_leq rfl rfl (by first | exact (decide_eq_true (by omega)).symm | exact (decide_eq_true (by simp only [Int.ofNat_eq_natCast]; omega)).symm)
    · exact fact_leq rfl rfl (by first | exact (decide_eq_true (by omega)).symm | exact (decide_eq_true (by simp only [Int.ofNat_eq_natCast]; omega)).symm)
    · exact fact_geq rfl rfl (by first | exact (decide_eq_false (by omega)).symm | exact (decide_eq_false (by simp only [Int.ofNat_eq_natCast]; omega)).symm)
  have G : ∀ f ∈ ofactsgood5_1, OFactOK Tryz.prog (withAll (ctx consgood5_1 []) factsgood5_1 ofactsgood5_1 σ0 fun _ _ => none) f := by
    intro f hf
    simp only [ofactsgood5_1, List.mem_cons, List.mem_nil_iff, or_false] at hf
    rcases hf with rfl | rfl | rfl | rfl | rfl | rfl | rfl | rfl | rfl | rfl | rfl | rfl | rfl
    · exact ofact_slice_hi Tryz.underlying9 rfl rfl (by rw [sealed_pre]; rfl) (by rw [hlen4]; exact Nat.le_add_right _ _)
    · exact ofact_conv Tryz.underlying53 Tryz.underlying3 rfl rfl (wrap_size (by omega))
    · exact ofact_slice_hi Tryz.underlying9 rfl rfl (by rw [extract_head]; rfl) (le_txt _ _)
    · exact ofact_slice_lo Tryz.underlying9 rfl rfl (by rw [extract_tail]; rfl) (le_txt _ _)
    · exact ofact_conv Tryz.underlying53 Tryz.underlying3 rfl rfl (wrap_size (by omega))
    · exact ofact_slice_hi Tryz.underlying9 rfl rfl (by rw [extract_head]; rfl) (le_txt _ _)
    · exact ofact_slice_lo Tryz.underlying9 rfl rfl (by rw [extract_tail]; rfl) (le_txt _ _)
    · exact ofact_conv Tryz.underlying53 Tryz.underlying3 rfl rfl (wrap_size (by omega))
    · exact ofact_slice_hi Tryz.underlying9 rfl rfl (by rw [extract_head]; rfl) (le_txt _ _)
    · exact ofact_slice_lo Tryz.underlying9 rfl rfl (by rw [extract_tail]; rfl) (le_txt _ _)
    · exact ofact_conv Tryz.underlying53 Tryz.underlying3 rfl rfl (wrap_size (by omega))
    · exact ofact_slice_hi Tryz.underlying9 rfl rfl (by rw [extract_head]; rfl) (le_txt _ _)
    · exact ofact_slice_lo Tryz.underlying9 rfl rfl (by rw [extract_tail]; rfl) (le_txt _ _)
  have K : ∀ p ∈ consgood5_1, ConOK Tryz.prog (Outer w σ0 fun b => b < w.heap.size) p.1 p.2 := by
    intro p hp
    simp only [consgood5_1, List.mem_cons, List.mem_nil_iff, or_false] at hp
    rcases hp with rfl | rfl | rfl | rfl | rfl
    · refine ans_ok fun r hr => ?_
      obtain rfl : r = ([.symStr 12, .symInt .i64 13], .symInt .u32 10) := by simpa using hr
      refine ⟨_, _, rfl, rfl, fun w1 _ => (get_any (sealed (txt (cur n l h x m [1]))) (txt (cur n l h x m [1])).size (by rw [hlen4]; exact Nat.le_refl _) (by rw [hlen4, txt_size]; omega) w1).mono fun e w2 ⟨h1, h2⟩ => ⟨?_, stay h2⟩⟩
      rw [h1, sealed_rd]
      rfl
    · exact crc_row (s := txt (cur n l h x m [1])) rfl rfl (by rw [txt_size]; omega)
    · refine ans_ok fun r hr => ?_
      simp only [List.mem_cons, List.mem_nil_iff, or_false] at hr
      rcases hr with rfl | rfl | rfl | rfl | rfl
      · exact ⟨_, _, rfl, rfl, fun w1 _ => number_any n.size (by omega) (txt (lay n (lay l (lay h (lay x (vb (zig m) ++ [1])))))) (n.data.toList ++ (lay l (lay h (lay x (vb (zig m) ++ [1]))))) (by rw [txt_size]; have := lay_len_0 n l h x m [1]; omega) rfl w1⟩
      · exact ⟨_, _, rfl, rfl, fun w1 _ => number_any l.size (by omega) (txt (lay l (lay h (lay x (vb (zig m) ++ [1]))))) (l.data.toList ++ (lay h (lay x (vb (zig m) ++ [1])))) (by rw [txt_size]; have := lay_len_1 n l h x m [1]; omega) rfl w1⟩
      · exact ⟨_, _, rfl, rfl, fun w1 _ => number_any h.size (by omega) (txt (lay h (lay x (vb (zig m) ++ [1])))) (h.data.toList ++ (lay x (vb (zig m) ++ [1]))) (by rw [txt_size]; have := lay_len_2 n l h x m [1]; omega) rfl w1⟩
      · exact ⟨_, _, rfl, rfl, fun w1 _ => number_any x.size (by omega) (txt (lay x (vb (zig m) ++ [1]))) (x.data.toList ++ (vb (zig m) ++ [1])) (by rw [txt_size]; have := lay_len_3 n l h x m [1]; omega) rfl w1⟩
      · exact ⟨_, _, rfl, rfl, fun w1 _ => number_any (zig m) (zig_lt hlo hhi) (txt (vb (zig m) ++ [1])) [1] (by rw [txt_size]; have := lay_len_4 n l h x m [1]; omega) rfl w1⟩
    · refine ans_ok fun r hr => ?_
      obtain rfl : r = ([.symInt .u64 6], .symInt .i64 4) := by simpa using hr
      exact ⟨_, _, rfl, rfl, fun w1 _ => zag_any m hlo hhi w1⟩
    · refine ans_ok fun r hr => ?_
      simp only [List.mem_cons, List.mem_nil_iff, or_false] at hr
      rcases hr with rfl | rfl | rfl | rfl | rfl
      · exact ⟨_, _, rfl, rfl, fun w1 _ => clone_any n (by first | omega | (rw [txt_size]; omega)) w1⟩
      · exact ⟨_, _, rfl, rfl, fun w1 _ => clone_any l (by first | omega | (rw [txt_size]; omega)) w1⟩
      · exact ⟨_, _, rfl, rfl, fun w1 _ => clone_any h (by first | omega | (rw [txt_size]; omega)) w1⟩
      · exact ⟨_, _, rfl, rfl, fun w1 _ => clone_any x (by first | omega | (rw [txt_size]; omega)) w1⟩
      · exact ⟨_, _, rfl, rfl, fun w1 _ => clone_any (txt (cur n l h x m [1])) (by first | omega | (rw [txt_size]; omega)) w1⟩
  exact calls_val (withAll_ok (ctx_ok [] K) (fun _ _ _ h => h.σ) (fun _ _ _ _ _ _ _ h => by cases h) F G) mixed (by rw [← runF_eq]; exact rungood5_1 σ0) (fun i hi => by
    obtain ⟨k, rfl⟩ : ∃ k, i = k + 80 := ⟨i - 80, by have : 80 ≤ i := hi; omega⟩
    rfl) rfl rfl
noncomputable def factsgood6_1 : List (BinOp × AV × AV × AV) := [(.sub, .symLen 12, .int .i64 4, .symInt .i64 13), (.lss, .symInt .i64 13, .int .i64 0, .bool false), (.neq, .symInt .u32 10, .symInt .u32 10, .bool false), (.gtr, .symInt .u64 20, .int .u64 40, .bool false), (.gtr, .symInt .i64 21, .symLen 22, .bool false), (.gtr, .symInt .u64 30, .int .u64 60, .bool false), (.gtr, .symInt .i64 31, .symLen 32, .bool false), (.gtr, .symInt .u64 40, .int .u64 60, .bool false), (.gtr, .symInt .i64 41, .symLen 42, .bool false), (.gtr, .symInt .u64 50, .int .u64 61, .bool false), (.gtr, .symInt .i64 51, .symLen 52, .bool false), (.neq, .symStr 0, .str [], .bool true), (.leq, .symLen 0, .int .i64 40, .bool true), (.leq, .symLen 1, .int .i64 60, .bool true), (.leq, .symLen 2, .int .i64 60, .bool true), (.geq, .symInt .i64 4, .int .i64 1, .bool true), (.leq, .symInt .i64 4, .int .i64 50, .bool false)]
noncomputable def ofactsgood6_1 : List ((Nat × Nat × Nat) × List AV × AV) := [((6, 9, 2), [.symStr 12, .symInt .i64 13], .symStr 9), ((7, 53, 3), [.symInt .u64 20], .symInt .i64 21), ((6, 9, 2), [.symStr 22, .symInt .i64 21], .symStr 0), ((6, 9, 1), [.symStr 22, .symInt .i64 21], .symStr 23), ((7, 53, 3), [.symInt .u64 30], .symInt .i64 31), ((6, 9, 2), [.symStr 32, .symInt .i64 31], .symStr 1), ((6, 9, 1), [.symStr 32, .symInt .i64 31], .symStr 33), ((7, 53, 3), [.symInt .u64 40], .symInt .i64 41), ((6, 9, 2), [.symStr 42, .symInt .i64 41], .symStr 2), ((6, 9, 1), [.symStr 42, .symInt .i64 41], .symStr 43), ((7, 53, 3), [.symInt .u64 50], .symInt .i64 51), ((6, 9, 2), [.symStr 52, .symInt .i64 51], .symStr 3), ((6, 9, 1), [.symStr 52, .symInt .i64 51], .symStr 53)]
noncomputable def consgood6_1 : List (FuncId × Con) := [(39, .ans [([.symStr 12, .symInt .i64 13], .symInt .u32 10)]), (36, .fn (rowFn [([.symStr 9], .symInt .u32 10)])), (80, .ans [([.symStr 9], .tuple [.symInt .u64 20, .symStr 22, .int .i64 0]), ([.symStr 23], .tuple [.symInt .u64 30, .symStr 32, .int .i64 0]), ([.symStr 33], .tuple [.symInt .u64 40, .symStr 42, .int .i64 0]), ([.symStr 43], .tuple [.symInt .u64 50, .symStr 52, .int .i64 0]), ([.symStr 53], .tuple [.symInt .u64 6, .str [1], .int .i64 0])]), (43, .ans [([.symInt .u64 6], .symInt .i64 4)]), (21, .ans [([.symStr 0], .symStr 0), ([.symStr 1], .symStr 1), ([.symStr 2], .symStr 2), ([.symStr 3], .symStr 3), ([.symStr 9], .symStr 9)])]
theorem rungood6_1 (σ0 : Nat → Option Value) : saysVal (.tuple [.agg [.str [], .str [], .str [], .str [], .int .i64 0, .bool false], .int .i64 23]) (runF (withAll (ctx consgood6_1 []) factsgood6_1 ofactsgood6_1 σ0 fun _ _ => none) 100000 7 [.symStr 12] (heap0 80)) = true := by kernel_rfl
set_option maxHeartbeats 1600000 in
theorem good6_1 {n l h x : ByteArray} {m : Int} (hs : Small n l h x m) (c0 : n.size ≤ 40) (c1 : l.size ≤ 60) (c2 : h.size ≤ 60) (c3 : x.size ≤ 61) (c4 : 1 ≤ n.size) (c5 : 1 ≤ m) (c6 : ¬ m ≤ 50) (w : World) :
    Calls Tryz.prog 7 #[.string (sealed (txt (cur n l h x m [1])))] w fun e w' => e = .returned (.tuple #[.agg #[.string ⟨#[]⟩, .string ⟨#[]⟩, .string ⟨#[]⟩, .string ⟨#[]⟩, .int .i64 0, .bool false], .int .i64 23]) ∧ Stands w w' := by
  obtain ⟨hn, hl, hh, hx, hlo, hhi⟩ := hs
  have hlen := cur_len n l h x m [1] hn hl hh hx hlo hhi (by simp)
  have hlen4 := sealed_size (txt (cur n l h x m [1]))
  let σ0 : Nat → Option Value := fun i => [Value.string n, .string l, .string h, .string x, .int .i64 m, Value.int .i64 0, .int .u64 (zig m), Value.int .i64 0, Value.int .i64 0, .string (txt (cur n l h x m [1])), .int .u32 (crc (cur n l h x m [1]) : Nat), Value.int .i64 0, .string (sealed (txt (cur n l h x m [1]))), .int .i64 ((txt (cur n l h x m [1])).size : Nat), Value.int .i64 0, Value.int .i64 0, Value.int .i64 0, Value.int .i64 0, Value.int .i64 0, Value.int .i64 0, .int .u64 (n.size : Nat), .int .i64 (n.size : Nat), .string (txt (n.data.toList ++ (lay l (lay h (lay x (vb (zig m) ++ [1])))))), .string (txt (lay l (lay h (lay x (vb (zig m) ++ [1]))))), Value.int .i64 0, Value.int .i64 0, Value.int .i64 0, Value.int .i64 0, Value.int .i64 0, Value.int .i64 0, .int .u64 (l.size : Nat), .int .i64 (l.size : Nat), .string (txt (l.data.toList ++ (lay h (lay x (vb (zig m) ++ [1]))))), .string (txt (lay h (lay x (vb (zig m) ++ [1])))), Value.int .i64 0, Value.int .i64 0, Value.int .i64 0, Value.int .i64 0, Value.int .i64 0, Value.int .i64 0, .int .u64 (h.size : Nat), .int .i64 (h.size : Nat), .string (txt (h.data.toList ++ (lay x (vb (zig m) ++ [1])))), .string (txt (lay x (vb (zig m) ++ [1]))), Value.int .i64 0, Value.int .i64 0, Value.int .i64 0, Value.int .i64 0, Value.int .i64 0, Value.int .i64 0, .int .u64 (x.size : Nat), .int .i64 (x.size : Nat), .string (txt (x.data.toList ++ (vb (zig m) ++ [1]))), .string (txt (vb (zig m) ++ [1]))][i]?
  have F : ∀ f ∈ factsgood6_1, FactOK Tryz.prog (withAll (ctx consgood6_1 []) factsgood6_1 ofactsgood6_1 σ0 fun _ _ => none) f := by
    intro f hf
    simp only [factsgood6_1, List.mem_cons, List.mem_nil_iff, or_false] at hf
    rcases hf with rfl | rfl | rfl | rfl | rfl | rfl | rfl | rfl | rfl | rfl | rfl | rfl | rfl | rfl | rfl | rfl | rfl
    · exact fact_sub rfl rfl rfl (sub4 hlen4 (by rw [txt_size]; omega))
    · exact fact_lss rfl rfl (not_neg _)
    · exact fact_neq rfl rfl (not_ne _)
    · exact fact_gtr rfl rfl (by first | exact (decide_eq_false (by omega)).symm | exact (decide_eq_false (by simp only [Int.ofNat_eq_natCast]; omega)).symm)
    · exact fact_gtr rfl rfl (gt_len _ _)
    · exact fact_gtr rfl rfl (by first | exact (decide_eq_false (by omega)).symm | exact (decide_eq_false (by simp only [Int.ofNat_eq_natCast]; omega)).symm)
    · exact fact_gtr rfl rfl (gt_len _ _)
    · exact fact_gtr rfl rfl (by first | exact (decide_eq_false (by omega)).symm | exact (decide_eq_false (by simp only [Int.ofNat_eq_natCast]; omega)).symm)
    · exact fact_gtr rfl rfl (gt_len _ _)
    · exact fact_gtr rfl rfl (by first | exact (decide_eq_false (by omega)).symm | exact (decide_eq_false (by simp only [Int.ofNat_eq_natCast]; omega)).symm)
    · exact fact_gtr rfl rfl (gt_len _ _)
    · exact fact_neq_empty rfl (by first | exact (decide_eq_true (by omega)).symm | exact (decide_eq_false (by omega)).symm)
    · exact fact_leq rfl rfl (by first | exact (decide_eq_true (by omega)).symm | exact (decide_eq_true (by simp only [Int.ofNat_eq_natCast]; omega)).symm)
    · exact fact_leq rfl rfl (by first | exact (decide_eq_true (by omega)).symm | exact (decide_eq_true (by simp only [Int.ofNat_eq_natCast]; omega)).symm)
    · exact fact_leq rfl rfl (by first | exact (decide_eq_true (by omega)).symm | exact (decide_eq_true (by simp only [Int.ofNat_eq_natCast]; omega)).symm)
    · exact fact_geq rfl rfl (by first | exact (decide_eq_true (by omega)).symm | exact (decide_eq_true (by simp only [Int.ofNat_eq_natCast]; omega)).symm)
    · exact fact_leq rfl rfl (by first | exact (decide_eq_false (by omega)).symm | exact (decide_eq_false (by simp only [Int.ofNat_eq_natCast]; omega)).symm)
  have G : ∀ f ∈ ofactsgood6_1, OFactOK Tryz.prog (withAll (ctx consgood6_1 []) factsgood6_1 ofactsgood6_1 σ0 fun _ _ => none) f := by
    intro f hf
    simp only [ofactsgood6_1, List.mem_cons, List.mem_nil_iff, or_false] at hf
    rcases hf with rfl | rfl | rfl | rfl | rfl | rfl | rfl | rfl | rfl | rfl | rfl | rfl | rfl
    · exact ofact_slice_hi Tryz.underlying9 rfl rfl (by rw [sealed_pre]; rfl) (by rw [hlen4]; exact Nat.le_add_right _ _)
    · exact ofact_conv Tryz.underlying53 Tryz.underlying3 rfl rfl (wrap_size (by omega))
    · exact ofact_slice_hi Tryz.underlying9 rfl rfl (by rw [extract_head]; rfl) (le_txt _ _)
    · exact ofact_slice_lo Tryz.underlying9 rfl rfl (by rw [extract_tail]; rfl) (le_txt _ _)
    · exact ofact_conv Tryz.underlying53 Tryz.underlying3 rfl rfl (wrap_size (by omega))
    · exact ofact_slice_hi Tryz.underlying9 rfl rfl (by rw [extract_head]; rfl) (le_txt _ _)
    · exact ofact_slice_lo Tryz.underlying9 rfl rfl (by rw [extract_tail]; rfl) (le_txt _ _)
    · exact ofact_conv Tryz.underlying53 Tryz.underlying3 rfl rfl (wrap_size (by omega))
    · exact ofact_slice_hi Tryz.underlying9 rfl rfl (by rw [extract_head]; rfl) (le_txt _ _)
    · exact ofact_slice_lo Tryz.underlying9 rfl rfl (by rw [extract_tail]; rfl) (le_txt _ _)
    · exact ofact_conv Tryz.underlying53 Tryz.underlying3 rfl rfl (wrap_size (by omega))
    · exact ofact_slice_hi Tryz.underlying9 rfl rfl (by rw [extract_head]; rfl) (le_txt _ _)
    · exact ofact_slice_lo Tryz.underlying9 rfl rfl (by rw [extract_tail]; rfl) (le_txt _ _)
  have K : ∀ p ∈ consgood6_1, ConOK Tryz.prog (Outer w σ0 fun b => b < w.heap.size) p.1 p.2 := by
    intro p hp
    simp only [consgood6_1, List.mem_cons, List.mem_nil_iff, or_false] at hp
    rcases hp with rfl | rfl | rfl | rfl | rfl
    · refine ans_ok fun r hr => ?_
      obtain rfl : r = ([.symStr 12, .symInt .i64 13], .symInt .u32 10) := by simpa using hr
      refine ⟨_, _, rfl, rfl, fun w1 _ => (get_any (sealed (txt (cur n l h x m [1]))) (txt (cur n l h x m [1])).size (by rw [hlen4]; exact Nat.le_refl _) (by rw [hlen4, txt_size]; omega) w1).mono fun e w2 ⟨h1, h2⟩ => ⟨?_, stay h2⟩⟩
      rw [h1, sealed_rd]
      rfl
    · exact crc_row (s := txt (cur n l h x m [1])) rfl rfl (by rw [txt_size]; omega)
    · refine ans_ok fun r hr => ?_
      simp only [List.mem_cons, List.mem_nil_iff, or_false] at hr
      rcases hr with rfl | rfl | rfl | rfl | rfl
      · exact ⟨_, _, rfl, rfl, fun w1 _ => number_any n.size (by omega) (txt (lay n (lay l (lay h (lay x (vb (zig m) ++ [1])))))) (n.data.toList ++ (lay l (lay h (lay x (vb (zig m) ++ [1]))))) (by rw [txt_size]; have := lay_len_0 n l h x m [1]; omega) rfl w1⟩
      · exact ⟨_, _, rfl, rfl, fun w1 _ => number_any l.size (by omega) (txt (lay l (lay h (lay x (vb (zig m) ++ [1]))))) (l.data.toList ++ (lay h (lay x (vb (zig m) ++ [1])))) (by rw [txt_size]; have := lay_len_1 n l h x m [1]; omega) rfl w1⟩
      · exact ⟨_, _, rfl, rfl, fun w1 _ => number_any h.size (by omega) (txt (lay h (lay x (vb (zig m) ++ [1])))) (h.data.toList ++ (lay x (vb (zig m) ++ [1]))) (by rw [txt_size]; have := lay_len_2 n l h x m [1]; omega) rfl w1⟩
      · exact ⟨_, _, rfl, rfl, fun w1 _ => number_any x.size (by omega) (txt (lay x (vb (zig m) ++ [1]))) (x.data.toList ++ (vb (zig m) ++ [1])) (by rw [txt_size]; have := lay_len_3 n l h x m [1]; omega) rfl w1⟩
      · exact ⟨_, _, rfl, rfl, fun w1 _ => number_any (zig m) (zig_lt hlo hhi) (txt (vb (zig m) ++ [1])) [1] (by rw [txt_size]; have := lay_len_4 n l h x m [1]; omega) rfl w1⟩
    · refine ans_ok fun r hr => ?_
      obtain rfl : r = ([.symInt .u64 6], .symInt .i64 4) := by simpa using hr
      exact ⟨_, _, rfl, rfl, fun w1 _ => zag_any m hlo hhi w1⟩
    · refine ans_ok fun r hr => ?_
      simp only [List.mem_cons, List.mem_nil_iff, or_false] at hr
      rcases hr with rfl | rfl | rfl | rfl | rfl
      · exact ⟨_, _, rfl, rfl, fun w1 _ => clone_any n (by first | omega | (rw [txt_size]; omega)) w1⟩
      · exact ⟨_, _, rfl, rfl, fun w1 _ => clone_any l (by first | omega | (rw [txt_size]; omega)) w1⟩
      · exact ⟨_, _, rfl, rfl, fun w1 _ => clone_any h (by first | omega | (rw [txt_size]; omega)) w1⟩
      · exact ⟨_, _, rfl, rfl, fun w1 _ => clone_any x (by first | omega | (rw [txt_size]; omega)) w1⟩
      · exact ⟨_, _, rfl, rfl, fun w1 _ => clone_any (txt (cur n l h x m [1])) (by first | omega | (rw [txt_size]; omega)) w1⟩
  exact calls_val (withAll_ok (ctx_ok [] K) (fun _ _ _ h => h.σ) (fun _ _ _ _ _ _ _ h => by cases h) F G) mixed (by rw [← runF_eq]; exact rungood6_1 σ0) (fun i hi => by
    obtain ⟨k, rfl⟩ : ∃ k, i = k + 80 := ⟨i - 80, by have : 80 ≤ i := hi; omega⟩
    rfl) rfl rfl
noncomputable def factsgood7_1 : List (BinOp × AV × AV × AV) := [(.sub, .symLen 12, .int .i64 4, .symInt .i64 13), (.lss, .symInt .i64 13, .int .i64 0, .bool false), (.neq, .symInt .u32 10, .symInt .u32 10, .bool false), (.gtr, .symInt .u64 20, .int .u64 40, .bool false), (.gtr, .symInt .i64 21, .symLen 22, .bool false), (.gtr, .symInt .u64 30, .int .u64 60, .bool false), (.gtr, .symInt .i64 31, .symLen 32, .bool false), (.gtr, .symInt .u64 40, .int .u64 60, .bool false), (.gtr, .symInt .i64 41, .symLen 42, .bool false), (.gtr, .symInt .u64 50, .int .u64 61, .bool false), (.gtr, .symInt .i64 51, .symLen 52, .bool false), (.neq, .symStr 0, .str [], .bool true), (.leq, .symLen 0, .int .i64 40, .bool true), (.leq, .symLen 1, .int .i64 60, .bool true), (.leq, .symLen 2, .int .i64 60, .bool true), (.geq, .symInt .i64 4, .int .i64 1, .bool true), (.leq, .symInt .i64 4, .int .i64 50, .bool true), (.leq, .symLen 3, .int .i64 61, .bool true), (.geq, .symStr 3, .symStr 1, .bool false)]
noncomputable def ofactsgood7_1 : List ((Nat × Nat × Nat) × List AV × AV) := [((6, 9, 2), [.symStr 12, .symInt .i64 13], .symStr 9), ((7, 53, 3), [.symInt .u64 20], .symInt .i64 21), ((6, 9, 2), [.symStr 22, .symInt .i64 21], .symStr 0), ((6, 9, 1), [.symStr 22, .symInt .i64 21], .symStr 23), ((7, 53, 3), [.symInt .u64 30], .symInt .i64 31), ((6, 9, 2), [.symStr 32, .symInt .i64 31], .symStr 1), ((6, 9, 1), [.symStr 32, .symInt .i64 31], .symStr 33), ((7, 53, 3), [.symInt .u64 40], .symInt .i64 41), ((6, 9, 2), [.symStr 42, .symInt .i64 41], .symStr 2), ((6, 9, 1), [.symStr 42, .symInt .i64 41], .symStr 43), ((7, 53, 3), [.symInt .u64 50], .symInt .i64 51), ((6, 9, 2), [.symStr 52, .symInt .i64 51], .symStr 3), ((6, 9, 1), [.symStr 52, .symInt .i64 51], .symStr 53)]
noncomputable def consgood7_1 : List (FuncId × Con) := [(39, .ans [([.symStr 12, .symInt .i64 13], .symInt .u32 10)]), (36, .fn (rowFn [([.symStr 9], .symInt .u32 10)])), (80, .ans [([.symStr 9], .tuple [.symInt .u64 20, .symStr 22, .int .i64 0]), ([.symStr 23], .tuple [.symInt .u64 30, .symStr 32, .int .i64 0]), ([.symStr 33], .tuple [.symInt .u64 40, .symStr 42, .int .i64 0]), ([.symStr 43], .tuple [.symInt .u64 50, .symStr 52, .int .i64 0]), ([.symStr 53], .tuple [.symInt .u64 6, .str [1], .int .i64 0])]), (43, .ans [([.symInt .u64 6], .symInt .i64 4)]), (21, .ans [([.symStr 0], .symStr 0), ([.symStr 1], .symStr 1), ([.symStr 2], .symStr 2), ([.symStr 3], .symStr 3), ([.symStr 9], .symStr 9)])]
theorem rungood7_1 (σ0 : Nat → Option Value) : saysVal (.tuple [.agg [.str [], .str [], .str [], .str [], .int .i64 0, .bool false], .int .i64 23]) (runF (withAll (ctx consgood7_1 []) factsgood7_1 ofactsgood7_1 σ0 fun _ _ => none) 100000 7 [.symStr 12] (heap0 80)) = true := by kernel_rfl
set_option maxHeartbeats 1600000 in
theorem good7_1 {n l h x : ByteArray} {m : Int} (hs : Small n l h x m) (c0 : n.size ≤ 40) (c1 : l.size ≤ 60) (c2 : h.size ≤ 60) (c3 : x.size ≤ 61) (c4 : 1 ≤ n.size) (c5 : 1 ≤ m) (c6 : m ≤ 50) (c7 : Op.bytesLess x.toList l.toList = true) (w : World) :
    Calls Tryz.prog 7 #[.string (sealed (txt (cur n l h x m [1])))] w fun e w' => e = .returned (.tuple #[.agg #[.string ⟨#[]⟩, .string ⟨#[]⟩, .string ⟨#[]⟩, .string ⟨#[]⟩, .int .i64 0, .bool false], .int .i64 23]) ∧ Stands w w' := by
  obtain ⟨hn, hl, hh, hx, hlo, hhi⟩ := hs
  have hlen := cur_len n l h x m [1] hn hl hh hx hlo hhi (by simp)
  have hlen4 := sealed_size (txt (cur n l h x m [1]))
  let σ0 : Nat → Option Value := fun i => [Value.string n, .string l, .string h, .string x, .int .i64 m, Value.int .i64 0, .int .u64 (zig m), Value.int .i64 0, Value.int .i64 0, .string (txt (cur n l h x m [1])), .int .u32 (crc (cur n l h x m [1]) : Nat), Value.int .i64 0, .string (sealed (txt (cur n l h x m [1]))), .int .i64 ((txt (cur n l h x m [1])).size : Nat), Value.int .i64 0, Value.int .i64 0, Value.int .i64 0, Value.int .i64 0, Value.int .i64 0, Value.int .i64 0, .int .u64 (n.size : Nat), .int .i64 (n.size : Nat), .string (txt (n.data.toList ++ (lay l (lay h (lay x (vb (zig m) ++ [1])))))), .string (txt (lay l (lay h (lay x (vb (zig m) ++ [1]))))), Value.int .i64 0, Value.int .i64 0, Value.int .i64 0, Value.int .i64 0, Value.int .i64 0, Value.int .i64 0, .int .u64 (l.size : Nat), .int .i64 (l.size : Nat), .string (txt (l.data.toList ++ (lay h (lay x (vb (zig m) ++ [1]))))), .string (txt (lay h (lay x (vb (zig m) ++ [1])))), Value.int .i64 0, Value.int .i64 0, Value.int .i64 0, Value.int .i64 0, Value.int .i64 0, Value.int .i64 0, .int .u64 (h.size : Nat), .int .i64 (h.size : Nat), .string (txt (h.data.toList ++ (lay x (vb (zig m) ++ [1])))), .string (txt (lay x (vb (zig m) ++ [1]))), Value.int .i64 0, Value.int .i64 0, Value.int .i64 0, Value.int .i64 0, Value.int .i64 0, Value.int .i64 0, .int .u64 (x.size : Nat), .int .i64 (x.size : Nat), .string (txt (x.data.toList ++ (vb (zig m) ++ [1]))), .string (txt (vb (zig m) ++ [1]))][i]?
  have F : ∀ f ∈ factsgood7_1, FactOK Tryz.prog (withAll (ctx consgood7_1 []) factsgood7_1 ofactsgood7_1 σ0 fun _ _ => none) f := by
    intro f hf
    simp only [factsgood7_1, List.mem_cons, List.mem_nil_iff, or_false] at hf
    rcases hf with rfl | rfl | rfl | rfl | rfl | rfl | rfl | rfl | rfl | rfl | rfl | rfl | rfl | rfl | rfl | rfl | rfl | rfl | rfl
    · exact fact_sub rfl rfl rfl (sub4 hlen4 (by rw [txt_size]; omega))
    · exact fact_lss rfl rfl (not_neg _)
    · exact fact_neq rfl rfl (not_ne _)
    · exact fact_gtr rfl rfl (by first | exact (decide_eq_false (by omega)).symm | exact (decide_eq_false (by simp only [Int.ofNat_eq_natCast]; omega)).symm)
    · exact fact_gtr rfl rfl (gt_len _ _)
    · exact fact_gtr rfl rfl (by first | exact (decide_eq_false (by omega)).symm | exact (decide_eq_false (by simp only [Int.ofNat_eq_natCast]; omega)).symm)
    · exact fact_gtr rfl rfl (gt_len _ _)
    · exact fact_gtr rfl rfl (by first | exact (decide_eq_false (by omega)).symm | exact (decide_eq_false (by simp only [Int.ofNat_eq_natCast]; omega)).symm)
    · exact fact_gtr rfl rfl (gt_len _ _)
    · exact fact_gtr rfl rfl (by first | exact (decide_eq_false (by omega)).symm | exact (decide_eq_false (by simp only [Int.ofNat_eq_natCast]; omega)).symm)
    · exact fact_gtr rfl rfl (gt_len _ _)
    · exact fact_neq_empty rfl (by first | exact (decide_eq_true (by omega)).symm | exact (decide_eq_false (by omega)).symm)
    · exact fact_leq rfl rfl (by first | exact (decide_eq_true (by omega)).symm | exact (decide_eq_true (by simp only [Int.ofNat_eq_natCast]; omega)).symm)
    · exact fact_leq rfl rfl (by first | exact (decide_eq_true (by omega)).symm | exact (decide_eq_true (by simp only [Int.ofNat_eq_natCast]; omega)).symm)
    · exact fact_leq rfl rfl (by first | exact (decide_eq_true (by omega)).symm | exact (decide_eq_true (by simp only [Int.ofNat_eq_natCast]; omega)).symm)
    · exact fact_geq rfl rfl (by first | exact (decide_eq_true (by omega)).symm | exact (decide_eq_true (by simp only [Int.ofNat_eq_natCast]; omega)).symm)
    · exact fact_leq rfl rfl (by first | exact (decide_eq_true (by omega)).symm | exact (decide_eq_true (by simp only [Int.ofNat_eq_natCast]; omega)).symm)
    · exact fact_leq rfl rfl (by first | exact (decide_eq_true (by omega)).symm | exact (decide_eq_true (by simp only [Int.ofNat_eq_natCast]; omega)).symm)
    · exact fact_geq_txt rfl rfl (by rw [c7]; rfl)
  have G : ∀ f ∈ ofactsgood7_1, OFactOK Tryz.prog (withAll (ctx consgood7_1 []) factsgood7_1 ofactsgood7_1 σ0 fun _ _ => none) f := by
    intro f hf
    simp only [ofactsgood7_1, List.mem_cons, List.mem_nil_iff, or_false] at hf
    rcases hf with rfl | rfl | rfl | rfl | rfl | rfl | rfl | rfl | rfl | rfl | rfl | rfl | rfl
    · exact ofact_slice_hi Tryz.underlying9 rfl rfl (by rw [sealed_pre]; rfl) (by rw [hlen4]; exact Nat.le_add_right _ _)
    · exact ofact_conv Tryz.underlying53 Tryz.underlying3 rfl rfl (wrap_size (by omega))
    · exact ofact_slice_hi Tryz.underlying9 rfl rfl (by rw [extract_head]; rfl) (le_txt _ _)
    · exact ofact_slice_lo Tryz.underlying9 rfl rfl (by rw [extract_tail]; rfl) (le_txt _ _)
    · exact ofact_conv Tryz.underlying53 Tryz.underlying3 rfl rfl (wrap_size (by omega))
    · exact ofact_slice_hi Tryz.underlying9 rfl rfl (by rw [extract_head]; rfl) (le_txt _ _)
    · exact ofact_slice_lo Tryz.underlying9 rfl rfl (by rw [extract_tail]; rfl) (le_txt _ _)
    · exact ofact_conv Tryz.underlying53 Tryz.underlying3 rfl rfl (wrap_size (by omega))
    · exact ofact_slice_hi Tryz.underlying9 rfl rfl (by rw [extract_head]; rfl) (le_txt _ _)
    · exact ofact_slice_lo Tryz.underlying9 rfl rfl (by rw [extract_tail]; rfl) (le_txt _ _)
    · exact ofact_conv Tryz.underlying53 Tryz.underlying3 rfl rfl (wrap_size (by omega))
    · exact ofact_slice_hi Tryz.underlying9 rfl rfl (by rw [extract_head]; rfl) (le_txt _ _)
    · exact ofact_slice_lo Tryz.underlying9 rfl rfl (by rw [extract_tail]; rfl) (le_txt _ _)
  have K : ∀ p ∈ consgood7_1, ConOK Tryz.prog (Outer w σ0 fun b => b < w.heap.size) p.1 p.2 := by
    intro p hp
    simp only [consgood7_1, List.mem_cons, List.mem_nil_iff, or_false] at hp
    rcases hp with rfl | rfl | rfl | rfl | rfl
    · refine ans_ok fun r hr => ?_
      obtain rfl : r = ([.symStr 12, .symInt .i64 13], .symInt .u32 10) := by simpa using hr
      refine ⟨_, _, rfl, rfl, fun w1 _ => (get_any (sealed (txt (cur n l h x m [1]))) (txt (cur n l h x m [1])).size (by rw [hlen4]; exact Nat.le_refl _) (by rw [hlen4, txt_size]; omega) w1).mono fun e w2 ⟨h1, h2⟩ => ⟨?_, stay h2⟩⟩
      rw [h1, sealed_rd]
      rfl
    · exact crc_row (s := txt (cur n l h x m [1])) rfl rfl (by rw [txt_size]; omega)
    · refine ans_ok fun r hr => ?_
      simp only [List.mem_cons, List.mem_nil_iff, or_false] at hr
      rcases hr with rfl | rfl | rfl | rfl | rfl
      · exact ⟨_, _, rfl, rfl, fun w1 _ => number_any n.size (by omega) (txt (lay n (lay l (lay h (lay x (vb (zig m) ++ [1])))))) (n.data.toList ++ (lay l (lay h (lay x (vb (zig m) ++ [1]))))) (by rw [txt_size]; have := lay_len_0 n l h x m [1]; omega) rfl w1⟩
      · exact ⟨_, _, rfl, rfl, fun w1 _ => number_any l.size (by omega) (txt (lay l (lay h (lay x (vb (zig m) ++ [1]))))) (l.data.toList ++ (lay h (lay x (vb (zig m) ++ [1])))) (by rw [txt_size]; have := lay_len_1 n l h x m [1]; omega) rfl w1⟩
      · exact ⟨_, _, rfl, rfl, fun w1 _ => number_any h.size (by omega) (txt (lay h (lay x (vb (zig m) ++ [1])))) (h.data.toList ++ (lay x (vb (zig m) ++ [1]))) (by rw [txt_size]; have := lay_len_2 n l h x m [1]; omega) rfl w1⟩
      · exact ⟨_, _, rfl, rfl, fun w1 _ => number_any x.size (by omega) (txt (lay x (vb (zig m) ++ [1]))) (x.data.toList ++ (vb (zig m) ++ [1])) (by rw [txt_size]; have := lay_len_3 n l h x m [1]; omega) rfl w1⟩
      · exact ⟨_, _, rfl, rfl, fun w1 _ => number_any (zig m) (zig_lt hlo hhi) (txt (vb (zig m) ++ [1])) [1] (by rw [txt_size]; have := lay_len_4 n l h x m [1]; omega) rfl w1⟩
    · refine ans_ok fun r hr => ?_
      obtain rfl : r = ([.symInt .u64 6], .symInt .i64 4) := by simpa using hr
      exact ⟨_, _, rfl, rfl, fun w1 _ => zag_any m hlo hhi w1⟩
    · refine ans_ok fun r hr => ?_
      simp only [List.mem_cons, List.mem_nil_iff, or_false] at hr
      rcases hr with rfl | rfl | rfl | rfl | rfl
      · exact ⟨_, _, rfl, rfl, fun w1 _ => clone_any n (by first | omega | (rw [txt_size]; omega)) w1⟩
      · exact ⟨_, _, rfl, rfl, fun w1 _ => clone_any l (by first | omega | (rw [txt_size]; omega)) w1⟩
      · exact ⟨_, _, rfl, rfl, fun w1 _ => clone_any h (by first | omega | (rw [txt_size]; omega)) w1⟩
      · exact ⟨_, _, rfl, rfl, fun w1 _ => clone_any x (by first | omega | (rw [txt_size]; omega)) w1⟩
      · exact ⟨_, _, rfl, rfl, fun w1 _ => clone_any (txt (cur n l h x m [1])) (by first | omega | (rw [txt_size]; omega)) w1⟩
  exact calls_val (withAll_ok (ctx_ok [] K) (fun _ _ _ h => h.σ) (fun _ _ _ _ _ _ _ h => by cases h) F G) mixed (by rw [← runF_eq]; exact rungood7_1 σ0) (fun i hi => by
    obtain ⟨k, rfl⟩ : ∃ k, i = k + 80 := ⟨i - 80, by have : 80 ≤ i := hi; omega⟩
    rfl) rfl rfl
noncomputable def factsgood8_1 : List (BinOp × AV × AV × AV) := [(.sub, .symLen 12, .int .i64 4, .symInt .i64 13), (.lss, .symInt .i64 13, .int .i64 0, .bool false), (.neq, .symInt .u32 10, .symInt .u32 10, .bool false), (.gtr, .symInt .u64 20, .int .u64 40, .bool false), (.gtr, .symInt .i64 21, .symLen 22, .bool false), (.gtr, .symInt .u64 30, .int .u64 60, .bool false), (.gtr, .symInt .i64 31, .symLen 32, .bool false), (.gtr, .symInt .u64 40, .int .u64 60, .bool false), (.gtr, .symInt .i64 41, .symLen 42, .bool false), (.gtr, .symInt .u64 50, .int .u64 61, .bool false), (.gtr, .symInt .i64 51, .symLen 52, .bool false), (.neq, .symStr 0, .str [], .bool true), (.leq, .symLen 0, .int .i64 40, .bool true), (.leq, .symLen 1, .int .i64 60, .bool true), (.leq, .symLen 2, .int .i64 60, .bool true), (.geq, .symInt .i64 4, .int .i64 1, .bool true), (.leq, .symInt .i64 4, .int .i64 50, .bool true), (.leq, .symLen 3, .int .i64 61, .bool true), (.geq, .symStr 3, .symStr 1, .bool true)]
noncomputable def ofactsgood8_1 : List ((Nat × Nat × Nat) × List AV × AV) := [((6, 9, 2), [.symStr 12, .symInt .i64 13], .symStr 9), ((7, 53, 3), [.symInt .u64 20], .symInt .i64 21), ((6, 9, 2), [.symStr 22, .symInt .i64 21], .symStr 0), ((6, 9, 1), [.symStr 22, .symInt .i64 21], .symStr 23), ((7, 53, 3), [.symInt .u64 30], .symInt .i64 31), ((6, 9, 2), [.symStr 32, .symInt .i64 31], .symStr 1), ((6, 9, 1), [.symStr 32, .symInt .i64 31], .symStr 33), ((7, 53, 3), [.symInt .u64 40], .symInt .i64 41), ((6, 9, 2), [.symStr 42, .symInt .i64 41], .symStr 2), ((6, 9, 1), [.symStr 42, .symInt .i64 41], .symStr 43), ((7, 53, 3), [.symInt .u64 50], .symInt .i64 51), ((6, 9, 2), [.symStr 52, .symInt .i64 51], .symStr 3), ((6, 9, 1), [.symStr 52, .symInt .i64 51], .symStr 53)]
noncomputable def consgood8_1 : List (FuncId × Con) := [(39, .ans [([.symStr 12, .symInt .i64 13], .symInt .u32 10)]), (36, .fn (rowFn [([.symStr 9], .symInt .u32 10)])), (80, .ans [([.symStr 9], .tuple [.symInt .u64 20, .symStr 22, .int .i64 0]), ([.symStr 23], .tuple [.symInt .u64 30, .symStr 32, .int .i64 0]), ([.symStr 33], .tuple [.symInt .u64 40, .symStr 42, .int .i64 0]), ([.symStr 43], .tuple [.symInt .u64 50, .symStr 52, .int .i64 0]), ([.symStr 53], .tuple [.symInt .u64 6, .str [1], .int .i64 0])]), (43, .ans [([.symInt .u64 6], .symInt .i64 4)]), (21, .ans [([.symStr 0], .symStr 0), ([.symStr 1], .symStr 1), ([.symStr 2], .symStr 2), ([.symStr 3], .symStr 3), ([.symStr 9], .symStr 9)])]
theorem rungood8_1 (σ0 : Nat → Option Value) : saysVal (.tuple [.agg [.symStr 0, .symStr 1, .symStr 2, .symStr 3, .symInt .i64 4, .bool true], .int .i64 0]) (runF (withAll (ctx consgood8_1 []) factsgood8_1 ofactsgood8_1 σ0 fun _ _ => none) 100000 7 [.symStr 12] (heap0 80)) = true := by kernel_rfl
set_option maxHeartbeats 1600000 in
theorem good8_1 {n l h x : ByteArray} {m : Int} (hs : Small n l h x m) (c0 : n.size ≤ 40) (c1 : l.size ≤ 60) (c2 : h.size ≤ 60) (c3 : x.size ≤ 61) (c4 : 1 ≤ n.size) (c5 : 1 ≤ m) (c6 : m ≤ 50) (c7 : Op.bytesLess x.toList l.toList = false) (w : World) :
    Calls Tryz.prog 7 #[.string (sealed (txt (cur n l h x m [1])))] w fun e w' => e = .returned (.tuple #[.agg #[.string n, .string l, .string h, .string x, .int .i64 m, .bool true], .int .i64 0]) ∧ Stands w w' := by
  obtain ⟨hn, hl, hh, hx, hlo, hhi⟩ := hs
  have hlen := cur_len n l h x m [1] hn hl hh hx hlo hhi (by simp)
  have hlen4 := sealed_size (txt (cur n l h x m [1]))
  let σ0 : Nat → Option Value := fun i => [Value.string n, .string l, .string h, .string x, .int .i64 m, Value.int .i64 0, .int .u64 (zig m), Value.int .i64 0, Value.int .i64 0, .string (txt (cur n l h x m [1])), .int .u32 (crc (cur n l h x m [1]) : Nat), Value.int .i64 0, .string (sealed (txt (cur n l h x m [1]))), .int .i64 ((txt (cur n l h x m [1])).size : Nat), Value.int .i64 0, Value.int .i64 0, Value.int .i64 0, Value.int .i64 0, Value.int .i64 0, Value.int .i64 0, .int .u64 (n.size : Nat), .int .i64 (n.size : Nat), .string (txt (n.data.toList ++ (lay l (lay h (lay x (vb (zig m) ++ [1])))))), .string (txt (lay l (lay h (lay x (vb (zig m) ++ [1]))))), Value.int .i64 0, Value.int .i64 0, Value.int .i64 0, Value.int .i64 0, Value.int .i64 0, Value.int .i64 0, .int .u64 (l.size : Nat), .int .i64 (l.size : Nat), .string (txt (l.data.toList ++ (lay h (lay x (vb (zig m) ++ [1]))))), .string (txt (lay h (lay x (vb (zig m) ++ [1])))), Value.int .i64 0, Value.int .i64 0, Value.int .i64 0, Value.int .i64 0, Value.int .i64 0, Value.int .i64 0, .int .u64 (h.size : Nat), .int .i64 (h.size : Nat), .string (txt (h.data.toList ++ (lay x (vb (zig m) ++ [1])))), .string (txt (lay x (vb (zig m) ++ [1]))), Value.int .i64 0, Value.int .i64 0, Value.int .i64 0, Value.int .i64 0, Value.int .i64 0, Value.int .i64 0, .int .u64 (x.size : Nat), .int .i64 (x.size : Nat), .string (txt (x.data.toList ++ (vb (zig m) ++ [1]))), .string (txt (vb (zig m) ++ [1]))][i]?
  have F : ∀ f ∈ factsgood8_1, FactOK Tryz.prog (withAll (ctx consgood8_1 []) factsgood8_1 ofactsgood8_1 σ0 fun _ _ => none) f := by
    intro f hf
    simp only [factsgood8_1, List.mem_cons, List.mem_nil_iff, or_false] at hf
    rcases hf with rfl | rfl | rfl | rfl | rfl | rfl | rfl | rfl | rfl | rfl | rfl | rfl | rfl | rfl | rfl | rfl | rfl | rfl | rfl
    · exact fact_sub rfl rfl rfl (sub4 hlen4 (by rw [txt_size]; omega))
    · exact fact_lss rfl rfl (not_neg _)
    · exact fact_neq rfl rfl (not_ne _)
    · exact fact_gtr rfl rfl (by first | exact (decide_eq_false (by omega)).symm | exact (decide_eq_false (by simp only [Int.ofNat_eq_natCast]; omega)).symm)
    · exact fact_gtr rfl rfl (gt_len _ _)
    · exact fact_gtr rfl rfl (by first | exact (decide_eq_false (by omega)).symm | exact (decide_eq_false (by simp only [Int.ofNat_eq_natCast]; omega)).symm)
    · exact fact_gtr rfl rfl (gt_len _ _)
    · exact fact_gtr rfl rfl (by first | exact (decide_eq_false (by omega)).symm | exact (decide_eq_false (by simp only [Int.ofNat_eq_natCast]; omega)).symm)
    · exact fact_gtr rfl rfl (gt_len _ _)
    · exact fact_gtr rfl rfl (by first | exact (decide_eq_false (by omega)).symm | exact (decide_eq_false (by simp only [Int.ofNat_eq_natCast]; omega)).symm)
    · exact fact_gtr rfl rfl (gt_len _ _)
    · exact fact_neq_empty rfl (by first | exact (decide_eq_true (by omega)).symm | exact (decide_eq_false (by omega)).symm)
    · exact fact_leq rfl rfl (by first | exact (decide_eq_true (by omega)).symm | exact (decide_eq_true (by simp only [Int.ofNat_eq_natCast]; omega)).symm)
    · exact fact_leq rfl rfl (by first | exact (decide_eq_true (by omega)).symm | exact (decide_eq_true (by simp only [Int.ofNat_eq_natCast]; omega)).symm)
    · exact fact_leq rfl rfl (by first | exact (decide_eq_true (by omega)).symm | exact (decide_eq_true (by simp only [Int.ofNat_eq_natCast]; omega)).symm)
    · exact fact_geq rfl rfl (by first | exact (decide_eq_true (by omega)).symm | exact (decide_eq_true (by simp only [Int.ofNat_eq_natCast]; omega)).symm)
    · exact fact_leq rfl rfl (by first | exact (decide_eq_true (by omega)).symm | exact (decide_eq_true (by simp only [Int.ofNat_eq_natCast]; omega)).symm)
    · exact fact_leq rfl rfl (by first | exact (decide_eq_true (by omega)).symm | exact (decide_eq_true (by simp only [Int.ofNat_eq_natCast]; omega)).symm)
    · exact fact_geq_txt rfl rfl (by rw [c7]; rfl)
  have G : ∀ f ∈ ofactsgood8_1, OFactOK Tryz.prog (withAll (ctx consgood8_1 []) factsgood8_1 ofactsgood8_1 σ0 fun _ _ => none) f := by
    intro f hf
    simp only [ofactsgood8_1, List.mem_cons, List.mem_nil_iff, or_false] at hf
    rcases hf with rfl | rfl | rfl | rfl | rfl | rfl | rfl | rfl | rfl | rfl | rfl | rfl | rfl
    · exact ofact_slice_hi Tryz.underlying9 rfl rfl (by rw [sealed_pre]; rfl) (by rw [hlen4]; exact Nat.le_add_right _ _)
    · exact ofact_conv Tryz.underlying53 Tryz.underlying3 rfl rfl (wrap_size (by omega))
    · exact ofact_slice_hi Tryz.underlying9 rfl rfl (by rw [extract_head]; rfl) (le_txt _ _)
    · exact ofact_slice_lo Tryz.underlying9 rfl rfl (by rw [extract_tail]; rfl) (le_txt _ _)
    · exact ofact_conv Tryz.underlying53 Tryz.underlying3 rfl rfl (wrap_size (by omega))
    · exact ofact_slice_hi Tryz.underlying9 rfl rfl (by rw [extract_head]; rfl) (le_txt _ _)
    · exact ofact_slice_lo Tryz.underlying9 rfl rfl (by rw [extract_tail]; rfl) (le_txt _ _)
    · exact ofact_conv Tryz.underlying53 Tryz.underlying3 rfl rfl (wrap_size (by omega))
    · exact ofact_slice_hi Tryz.underlying9 rfl rfl (by rw [extract_head]; rfl) (le_txt _ _)
    · exact ofact_slice_lo Tryz.underlying9 rfl rfl (by rw [extract_tail]; rfl) (le_txt _ _)
    · exact ofact_conv Tryz.underlying53 Tryz.underlying3 rfl rfl (wrap_size (by omega))
    · exact ofact_slice_hi Tryz.underlying9 rfl rfl (by rw [extract_head]; rfl) (le_txt _ _)
    · exact ofact_slice_lo Tryz.underlying9 rfl rfl (by rw [extract_tail]; rfl) (le_txt _ _)
  have K : ∀ p ∈ consgood8_1, ConOK Tryz.prog (Outer w σ0 fun b => b < w.heap.size) p.1 p.2 := by
    intro p hp
    simp only [consgood8_1, List.mem_cons, List.mem_nil_iff, or_false] at hp
    rcases hp with rfl | rfl | rfl | rfl | rfl
    · refine ans_ok fun r hr => ?_
      obtain rfl : r = ([.symStr 12, .symInt .i64 13], .symInt .u32 10) := by simpa using hr
      refine ⟨_, _, rfl, rfl, fun w1 _ => (get_any (sealed (txt (cur n l h x m [1]))) (txt (cur n l h x m [1])).size (by rw [hlen4]; exact Nat.le_refl _) (by rw [hlen4, txt_size]; omega) w1).mono fun e w2 ⟨h1, h2⟩ => ⟨?_, stay h2⟩⟩
      rw [h1, sealed_rd]
      rfl
    · exact crc_row (s := txt (cur n l h x m [1])) rfl rfl (by rw [txt_size]; omega)
    · refine ans_ok fun r hr => ?_
      simp only [List.mem_cons, List.mem_nil_iff, or_false] at hr
      rcases hr with rfl | rfl | rfl | rfl | rfl
      · exact ⟨_, _, rfl, rfl, fun w1 _ => number_any n.size (by omega) (txt (lay n (lay l (lay h (lay x (vb (zig m) ++ [1])))))) (n.data.toList ++ (lay l (lay h (lay x (vb (zig m) ++ [1]))))) (by rw [txt_size]; have := lay_len_0 n l h x m [1]; omega) rfl w1⟩
      · exact ⟨_, _, rfl, rfl, fun w1 _ => number_any l.size (by omega) (txt (lay l (lay h (lay x (vb (zig m) ++ [1]))))) (l.data.toList ++ (lay h (lay x (vb (zig m) ++ [1])))) (by rw [txt_size]; have := lay_len_1 n l h x m [1]; omega) rfl w1⟩
      · exact ⟨_, _, rfl, rfl, fun w1 _ => number_any h.size (by omega) (txt (lay h (lay x (vb (zig m) ++ [1])))) (h.data.toList ++ (lay x (vb (zig m) ++ [1]))) (by rw [txt_size]; have := lay_len_2 n l h x m [1]; omega) rfl w1⟩
      · exact ⟨_, _, rfl, rfl, fun w1 _ => number_any x.size (by omega) (txt (lay x (vb (zig m) ++ [1]))) (x.data.toList ++ (vb (zig m) ++ [1])) (by rw [txt_size]; have := lay_len_3 n l h x m [1]; omega) rfl w1⟩
      · exact ⟨_, _, rfl, rfl, fun w1 _ => number_any (zig m) (zig_lt hlo hhi) (txt (vb (zig m) ++ [1])) [1] (by rw [txt_size]; have := lay_len_4 n l h x m [1]; omega) rfl w1⟩
    · refine ans_ok fun r hr => ?_
      obtain rfl : r = ([.symInt .u64 6], .symInt .i64 4) := by simpa using hr
      exact ⟨_, _, rfl, rfl, fun w1 _ => zag_any m hlo hhi w1⟩
    · refine ans_ok fun r hr => ?_
      simp only [List.mem_cons, List.mem_nil_iff, or_false] at hr
      rcases hr with rfl | rfl | rfl | rfl | rfl
      · exact ⟨_, _, rfl, rfl, fun w1 _ => clone_any n (by first | omega | (rw [txt_size]; omega)) w1⟩
      · exact ⟨_, _, rfl, rfl, fun w1 _ => clone_any l (by first | omega | (rw [txt_size]; omega)) w1⟩
      · exact ⟨_, _, rfl, rfl, fun w1 _ => clone_any h (by first | omega | (rw [txt_size]; omega)) w1⟩
      · exact ⟨_, _, rfl, rfl, fun w1 _ => clone_any x (by first | omega | (rw [txt_size]; omega)) w1⟩
      · exact ⟨_, _, rfl, rfl, fun w1 _ => clone_any (txt (cur n l h x m [1])) (by first | omega | (rw [txt_size]; omega)) w1⟩
  exact calls_val (withAll_ok (ctx_ok [] K) (fun _ _ _ h => h.σ) (fun _ _ _ _ _ _ _ h => by cases h) F G) mixed (by rw [← runF_eq]; exact rungood8_1 σ0) (fun i hi => by
    obtain ⟨k, rfl⟩ : ∃ k, i = k + 80 := ⟨i - 80, by have : 80 ≤ i := hi; omega⟩
    rfl) rfl rfl
end Go.Proofs.YtjjhphjbmllhhaaGreatDoor.Wk
