/-
  Part of the proof of a statement of this seat: walks of its functions and the closed run; no condition but those written in each theorem.
-/
import Derived.Test.YtjjhphjbmllhhaaGreatDoorGPA
namespace Go.Proofs.YtjjhphjbmllhhaaGreatDoor.Wk
set_option maxRecDepth 100000
open Go.RowKit Go.VmK Go.NumPure
noncomputable def factsBad : List (BinOp × AV × AV × AV) := [(.sub, .symLen 0, .int .i64 4, .symInt .i64 1), (.lss, .symInt .i64 1, .int .i64 0, .bool false), (.neq, .symInt .u32 2, .symInt .u32 4, .bool true)]
noncomputable def ofactsBad : List ((Nat × Nat × Nat) × List AV × AV) := [((6, 9, 2), [.symStr 0, .symInt .i64 1], .symStr 3)]
noncomputable def consBad : List (FuncId × Con) := [(39, .ans [([.symStr 0, .symInt .i64 1], .symInt .u32 2)]), (36, .fn (rowFn [([.symStr 3], .symInt .u32 4)]))]
theorem runBad (σ0 : Nat → Option Value) : saysVal (.tuple [.agg [.str [], .str [], .str [], .str [], .int .i64 0, .bool false], .int .i64 23]) (runF (withAll (ctx consBad []) factsBad ofactsBad σ0 fun _ _ => none) 100000 7 [.symStr 0] (heap0 80)) = true := by kernel_rfl
theorem bad {b : ByteArray} (h4 : 4 ≤ b.size) (hb : b.size ≤ 1000000) (hne : ¬ rd4 b (b.size - 4) = crc (b.extract 0 (b.size - 4)).data.toList) (w : World) :
    Calls Tryz.prog 7 #[.string b] w fun e w' => e = .returned (.tuple #[.agg #[.string ⟨#[]⟩, .string ⟨#[]⟩, .string ⟨#[]⟩, .string ⟨#[]⟩, .int .i64 0, .bool false], .int .i64 23]) ∧ Stands w w' := by
  let σ0 : Nat → Option Value := fun i => [Value.string b, .int .i64 ((b.size - 4 : Nat) : Int), .int .u32 (rd4 b (b.size - 4) : Nat), .string (b.extract 0 (b.size - 4)), .int .u32 (crc (b.extract 0 (b.size - 4)).data.toList : Nat)][i]?
  have F : ∀ f ∈ factsBad, FactOK Tryz.prog (withAll (ctx consBad []) factsBad ofactsBad σ0 fun _ _ => none) f := by
    intro f hf
    simp only [factsBad, List.mem_cons, List.mem_nil_iff, or_false] at hf
    rcases hf with rfl | rfl | rfl
    · exact fact_sub rfl rfl rfl (sub4 (by omega) (by omega))
    · exact fact_lss rfl rfl (not_neg _)
    · exact fact_neq rfl rfl (decide_eq_true (by omega)).symm
  have G : ∀ f ∈ ofactsBad, OFactOK Tryz.prog (withAll (ctx consBad []) factsBad ofactsBad σ0 fun _ _ => none) f := by
    intro f hf
    simp only [ofactsBad, List.mem_cons, List.mem_nil_iff, or_false] at hf
    subst hf
    exact ofact_slice_hi Tryz.underlying9 rfl rfl rfl (by omega)
  have K : ∀ p ∈ consBad, ConOK Tryz.prog (Outer w σ0 fun b => b < w.heap.size) p.1 p.2 := by
    intro p hp
    simp only [consBad, List.mem_cons, List.mem_nil_iff, or_false] at hp
    rcases hp with rfl | rfl
    · refine ans_ok fun r hr => ?_
      obtain rfl : r = ([.symStr 0, .symInt .i64 1], .symInt .u32 2) := by simpa using hr
      exact ⟨_, _, rfl, rfl, fun w1 _ => (get_any b (b.size - 4) (by omega) (by omega) w1).mono fun e w2 ⟨h1, h2⟩ => ⟨h1, stay h2⟩⟩
    · exact crc_row (s := b.extract 0 (b.size - 4)) rfl rfl (by rw [ByteArray.size_extract]; omega)
  exact calls_val (withAll_ok (ctx_ok [] K) (fun _ _ _ h => h.σ) (fun _ _ _ _ _ _ _ h => by cases h) F G) mixed (by rw [← runF_eq]; exact runBad σ0) (fun i hi => by
    obtain ⟨k, rfl⟩ : ∃ k, i = k + 80 := ⟨i - 80, by have : 80 ≤ i := hi; omega⟩
    rfl) rfl rfl
noncomputable def factsshort0 : List (BinOp × AV × AV × AV) := [(.sub, .symLen 12, .int .i64 4, .symInt .i64 13), (.lss, .symInt .i64 13, .int .i64 0, .bool false), (.neq, .symInt .u32 10, .symInt .u32 10, .bool false), (.gtr, .symInt .u64 20, .int .u64 40, .bool true)]
noncomputable def ofactsshort0 : List ((Nat × Nat × Nat) × List AV × AV) := [((6, 9, 2), [.symStr 12, .symInt .i64 13], .symStr 9)]
noncomputable def consshort0 : List (FuncId × Con) := [(39, .ans [([.symStr 12, .symInt .i64 13], .symInt .u32 10)]), (36, .fn (rowFn [([.symStr 9], .symInt .u32 10)])), (80, .ans [([.symStr 9], .tuple [.symInt .u64 20, .symStr 22, .int .i64 0])]), (43, .ans [([.symInt .u64 6], .symInt .i64 4)]), (21, .ans [([.symStr 0], .symStr 0), ([.symStr 1], .symStr 1), ([.symStr 2], .symStr 2), ([.symStr 3], .symStr 3), ([.symStr 9], .symStr 9)])]
theorem runshort0 (σ0 : Nat → Option Value) : saysVal (.tuple [.agg [.str [], .str [], .str [], .str [], .int .i64 0, .bool false], .int .i64 23]) (runF (withAll (ctx consshort0 []) factsshort0 ofactsshort0 σ0 fun _ _ => none) 100000 7 [.symStr 12] (heap0 80)) = true := by kernel_rfl
set_option maxHeartbeats 1600000 in
theorem short0 {n l h x : ByteArray} {m : Int} (hs : Small n l h x m) (c0 : ¬ n.size ≤ 40) (d : UInt8) (hcrc : crc (cur n l h x m []) = rd4 (cut1 (sealed (txt (cur n l h x m [d])))) (txt (cur n l h x m [])).size) (w : World) :
    Calls Tryz.prog 7 #[.string (cut1 (sealed (txt (cur n l h x m [d]))))] w fun e w' => e = .returned (.tuple #[.agg #[.string ⟨#[]⟩, .string ⟨#[]⟩, .string ⟨#[]⟩, .string ⟨#[]⟩, .int .i64 0, .bool false], .int .i64 23]) ∧ Stands w w' := by
  obtain ⟨hn, hl, hh, hx, hlo, hhi⟩ := hs
  have hlen := cur_len n l h x m [] hn hl hh hx hlo hhi (by simp)
  have hlen4 := cut1_len n l h x m d
  let σ0 : Nat → Option Value := fun i => [Value.string n, .string l, .string h, .string x, .int .i64 m, Value.int .i64 0, .int .u64 (zig m), Value.int .i64 0, Value.int .i64 0, .string (txt (cur n l h x m [])), .int .u32 (rd4 (cut1 (sealed (txt (cur n l h x m [d])))) (txt (cur n l h x m [])).size : Nat), Value.int .i64 0, .string (cut1 (sealed (txt (cur n l h x m [d])))), .int .i64 ((txt (cur n l h x m [])).size : Nat), Value.int .i64 0, Value.int .i64 0, Value.int .i64 0, Value.int .i64 0, Value.int .i64 0, Value.int .i64 0, .int .u64 (n.size : Nat), .int .i64 (n.size : Nat), .string (txt (n.data.toList ++ (lay l (lay h (lay x (vb (zig m) ++ [])))))), .string (txt (lay l (lay h (lay x (vb (zig m) ++ []))))), Value.int .i64 0, Value.int .i64 0, Value.int .i64 0, Value.int .i64 0, Value.int .i64 0, Value.int .i64 0, .int .u64 (l.size : Nat), .int .i64 (l.size : Nat), .string (txt (l.data.toList ++ (lay h (lay x (vb (zig m) ++ []))))), .string (txt (lay h (lay x (vb (zig m) ++ [])))), Value.int .i64 0, Value.int .i64 0, Value.int .i64 0, Value.int .i64 0, Value.int .i64 0, Value.int .i64 0, .int .u64 (h.size : Nat), .int .i64 (h.size : Nat), .string (txt (h.data.toList ++ (lay x (vb (zig m) ++ [])))), .string (txt (lay x (vb (zig m) ++ []))), Value.int .i64 0, Value.int .i64 0, Value.int .i64 0, Value.int .i64 0, Value.int .i64 0, Value.int .i64 0, .int .u64 (x.size : Nat), .int .i64 (x.size : Nat), .string (txt (x.data.toList ++ (vb (zig m) ++ []))), .string (txt (vb (zig m) ++ []))][i]?
  have F : ∀ f ∈ factsshort0, FactOK Tryz.prog (withAll (ctx consshort0 []) factsshort0 ofactsshort0 σ0 fun _ _ => none) f := by
    intro f hf
    simp only [factsshort0, List.mem_cons, List.mem_nil_iff, or_false] at hf
    rcases hf with rfl | rfl | rfl | rfl
    · exact fact_sub rfl rfl rfl (sub4 hlen4 (by rw [txt_size]; omega))
    · exact fact_lss rfl rfl (not_neg _)
    · exact fact_neq rfl rfl (not_ne _)
    · exact fact_gtr rfl rfl (by first | exact (decide_eq_true (by omega)).symm | exact (decide_eq_true (by simp only [Int.ofNat_eq_natCast]; omega)).symm)
  have G : ∀ f ∈ ofactsshort0, OFactOK Tryz.prog (withAll (ctx consshort0 []) factsshort0 ofactsshort0 σ0 fun _ _ => none) f := by
    intro f hf
    simp only [ofactsshort0, List.mem_cons, List.mem_nil_iff, or_false] at hf
    subst hf
    exact ofact_slice_hi Tryz.underlying9 rfl rfl (by rw [cut1_pre]; rfl) (by rw [hlen4]; exact Nat.le_add_right _ _)
  have K : ∀ p ∈ consshort0, ConOK Tryz.prog (Outer w σ0 fun b => b < w.heap.size) p.1 p.2 := by
    intro p hp
    simp only [consshort0, List.mem_cons, List.mem_nil_iff, or_false] at hp
    rcases hp with rfl | rfl | rfl | rfl | rfl
    · refine ans_ok fun r hr => ?_
      obtain rfl : r = ([.symStr 12, .symInt .i64 13], .symInt .u32 10) := by simpa using hr
      refine ⟨_, _, rfl, rfl, fun w1 _ => (get_any (cut1 (sealed (txt (cur n l h x m [d])))) (txt (cur n l h x m [])).size (by rw [hlen4]; exact Nat.le_refl _) (by rw [hlen4, txt_size]; omega) w1).mono fun e w2 ⟨h1, h2⟩ => ⟨?_, stay h2⟩⟩
      rw [h1]
    · exact crc_row (s := txt (cur n l h x m [])) rfl (by rw [txt_list, hcrc]; rfl) (by rw [txt_size]; omega)
    · refine ans_ok fun r hr => ?_
      simp only [List.mem_cons, List.mem_nil_iff, or_false] at hr
      subst hr
      exact ⟨_, _, rfl, rfl, fun w1 _ => number_any n.size (by omega) (txt (lay n (lay l (lay h (lay x (vb (zig m) ++ [])))))) (n.data.toList ++ (lay l (lay h (lay x (vb (zig m) ++ []))))) (by rw [txt_size]; have := lay_len_0 n l h x m []; omega) rfl w1⟩
    · refine ans_ok fun r hr => ?_
      obtain rfl : r = ([.symInt .u64 6], .symInt .i64 4) := by simpa using hr
      exact ⟨_, _, rfl, rfl, fun w1 _ => zag_any m hlo hhi w1⟩
    · refine ans_ok fun r hr => ?_
      simp only [List.mem_cons, List.mem_nil_iff, or_false] at hr
      rcases hr with rfl | rfl | rfl | rfl | rfl
      · exact ⟨_, _, rfl, rfl, fun w1 _ => clone_any n (by first | omega | (rw [txt_size]; omega)) w1⟩
      · exact ⟨_, _, rfl, rfl, fun w1 _ => clone_any l (by first | omega | (rw [txt_size]; omega)) w1⟩
      · exact ⟨_, _, rfl, rfl, fun w1 _ => clone_any h (by first | omega | (rw [txt_size]; omega)) w1⟩
      · exact ⟨_, _, rfl, rfl, fun w1 _ => clone_any x (by first | omega | (rw [txt_size]; omega)) w1⟩
      · exact ⟨_, _, rfl, rfl, fun w1 _ => clone_any (txt (cur n l h x m [])) (by first | omega | (rw [txt_size]; omega)) w1⟩
  exact calls_val (withAll_ok (ctx_ok [] K) (fun _ _ _ h => h.σ) (fun _ _ _ _ _ _ _ h => by cases h) F G) mixed (by rw [← runF_eq]; exact runshort0 σ0) (fun i hi => by
    obtain ⟨k, rfl⟩ : ∃ k, i = k + 80 := ⟨i - 80, by have : 80 ≤ i := hi; omega⟩
    rfl) rfl rfl
noncomputable def factsshort1 : List (BinOp × AV × AV × AV) := [(.sub, .symLen 12, .int .i64 4, .symInt .i64 13), (.lss, .symInt .i64 13, .int .i64 0, .bool false), (.neq, .symInt .u32 10, .symInt .u32 10, .bool false), (.gtr, .symInt .u64 20, .int .u64 40, .bool false), (.gtr, .symInt .i64 21, .symLen 22, .bool false), (.gtr, .symInt .u64 30, .int .u64 60, .bool true)]
noncomputable def ofactsshort1 : List ((Nat × Nat × Nat) × List AV × AV) := [((6, 9, 2), [.symStr 12, .symInt .i64 13], .symStr 9), ((7, 53, 3), [.symInt .u64 20], .symInt .i64 21), ((6, 9, 2), [.symStr 22, .symInt .i64 21], .symStr 0), ((6, 9, 1), [.symStr 22, .symInt .i64 21], .symStr 23)]
noncomputable def consshort1 : List (FuncId × Con) := [(39, .ans [([.symStr 12, .symInt .i64 13], .symInt .u32 10)]), (36, .fn (rowFn [([.symStr 9], .symInt .u32 10)])), (80, .ans [([.symStr 9], .tuple [.symInt .u64 20, .symStr 22, .int .i64 0]), ([.symStr 23], .tuple [.symInt .u64 30, .symStr 32, .int .i64 0])]), (43, .ans [([.symInt .u64 6], .symInt .i64 4)]), (21, .ans [([.symStr 0], .symStr 0), ([.symStr 1], .symStr 1), ([.symStr 2], .symStr 2), ([.symStr 3], .symStr 3), ([.symStr 9], .symStr 9)])]
theorem runshort1 (σ0 : Nat → Option Value) : saysVal (.tuple [.agg [.str [], .str [], .str [], .str [], .int .i64 0, .bool false], .int .i64 23]) (runF (withAll (ctx consshort1 []) factsshort1 ofactsshort1 σ0 fun _ _ => none) 100000 7 [.symStr 12] (heap0 80)) = true := by kernel_rfl
set_option maxHeartbeats 1600000 in
theorem short1 {n l h x : ByteArray} {m : Int} (hs : Small n l h x m) (c0 : n.size ≤ 40) (c1 : ¬ l.size ≤ 60) (d : UInt8) (hcrc : crc (cur n l h x m []) = rd4 (cut1 (sealed (txt (cur n l h x m [d])))) (txt (cur n l h x m [])).size) (w : World) :
    Calls Tryz.prog 7 #[.string (cut1 (sealed (txt (cur n l h x m [d]))))] w fun e w' => e = .returned (.tuple #[.agg #[.string ⟨#[]⟩, .string ⟨#[]⟩, .string ⟨#[]⟩, .string ⟨#[]⟩, .int .i64 0, .bool false], .int .i64 23]) ∧ Stands w w' := by
  obtain ⟨hn, hl, hh, hx, hlo, hhi⟩ := hs
  have hlen := cur_len n l h x m [] hn hl hh hx hlo hhi (by simp)
  have hlen4 := cut1_len n l h x m d
  let σ0 : Nat → Option Value := fun i => [Value.string n, .string l, .string h, .string x, .int .i64 m, Value.int .i64 0, .int .u64 (zig m), Value.int .i64 0, Value.int .i64 0, .string (txt (cur n l h x m [])), .int .u32 (rd4 (cut1 (sealed (txt (cur n l h x m [d])))) (txt (cur n l h x m [])).size : Nat), Value.int .i64 0, .string (cut1 (sealed (txt (cur n l h x m [d])))), .int .i64 ((txt (cur n l h x m [])).size : Nat), Value.int .i64 0, Value.int .i64 0, Value.int .i64 0, Value.int .i64 0, Value.int .i64 0, Value.int .i64 0, .int .u64 (n.size : Nat), .int .i64 (n.size : Nat), .string (txt (n.data.toList ++ (lay l (lay h (lay x (vb (zig m) ++ [])))))), .string (txt (lay l (lay h (lay x (vb (zig m) ++ []))))), Value.int .i64 0, Value.int .i64 0, Value.int .i64 0, Value.int .i64 0, Value.int .i64 0, Value.int .i64 0, .int .u64 (l.size : Nat), .int .i64 (l.size : Nat), .string (txt (l.data.toList ++ (lay h (lay x (vb (zig m) ++ []))))), .string (txt (lay h (lay x (vb (zig m) ++ [])))), Value.int .i64 0, Value.int .i64 0, Value.int .i64 0, Value.int .i64 0, Value.int .i64 0, Value.int .i64 0, .int .u64 (h.size : Nat), .int .i64 (h.size : Nat), .string (txt (h.data.toList ++ (lay x (vb (zig m) ++ [])))), .string (txt (lay x (vb (zig m) ++ []))), Value.int .i64 0, Value.int .i64 0, Value.int .i64 0, Value.int .i64 0, Value.int .i64 0, Value.int .i64 0, .int .u64 (x.size : Nat), .int .i64 (x.size : Nat), .string (txt (x.data.toList ++ (vb (zig m) ++ []))), .string (txt (vb (zig m) ++ []))][i]?
  have F : ∀ f ∈ factsshort1, FactOK Tryz.prog (withAll (ctx consshort1 []) factsshort1 ofactsshort1 σ0 fun _ _ => none) f := by
    intro f hf
    simp only [factsshort1, List.mem_cons, List.mem_nil_iff, or_false] at hf
    rcases hf with rfl | rfl | rfl | rfl | rfl | rfl
    · exact fact_sub rfl rfl rfl (sub4 hlen4 (by rw [txt_size]; omega))
    · exact fact_lss rfl rfl (not_neg _)
    · exact fact_neq rfl rfl (not_ne _)
    · exact fact_gtr rfl rfl (by first | exact (decide_eq_false (by omega)).symm | exact (decide_eq_false (by simp only [Int.ofNat_eq_natCast]; omega)).symm)
    · exact fact_gtr rfl rfl (gt_len _ _)
    · exact fact_gtr rfl rfl (by first | exact (decide_eq_true (by omega)).symm | exact (decide_eq_true (by simp only [Int.ofNat_eq_natCast]; omega)).symm)
  have G : ∀ f ∈ ofactsshort1, OFactOK Tryz.prog (withAll (ctx consshort1 []) factsshort1 ofactsshort1 σ0 fun _ _ => none) f := by
    intro f hf
    simp only [ofactsshort1, List.mem_cons, List.mem_nil_iff, or_false] at hf
    rcases hf with rfl | rfl | rfl | rfl
    · exact ofact_slice_hi Tryz.underlying9 rfl rfl (by rw [cut1_pre]; rfl) (by rw [hlen4]; exact Nat.le_add_right _ _)
    · exact ofact_conv Tryz.underlying53 Tryz.underlying3 rfl rfl (wrap_size (by omega))
    · exact ofact_slice_hi Tryz.underlying9 rfl rfl (by rw [extract_head]; rfl) (le_txt _ _)
    · exact ofact_slice_lo Tryz.underlying9 rfl rfl (by rw [extract_tail]; rfl) (le_txt _ _)
  have K : ∀ p ∈ consshort1, ConOK Tryz.prog (Outer w σ0 fun b => b < w.heap.size) p.1 p.2 := by
    intro p hp
    simp only [consshort1, List.mem_cons, List.mem_nil_iff, or_false] at hp
    rcases hp with rfl | rfl | rfl | rfl | rfl
    · refine ans_ok fun r hr => ?_
      obtain rfl : r = ([.symStr 12, .symInt .i64 13], .symInt .u32 10) := by simpa using hr
      refine ⟨_, _, rfl, rfl, fun w1 _ => (get_any (cut1 (sealed (txt (cur n l h x m [d])))) (txt (cur n l h x m [])).size (by rw [hlen4]; exact Nat.le_refl _) (by rw [hlen4, txt_size]; omega) w1).mono fun e w2 ⟨h1, h2⟩ => ⟨?_, stay h2⟩⟩
      rw [h1]
    · exact crc_row (s := txt (cur n l h x m [])) rfl (by rw [txt_list, hcrc]; rfl) (by rw [txt_size]; omega)
    · refine ans_ok fun r hr => ?_
      simp only [List.mem_cons, List.mem_nil_iff, or_false] at hr
      rcases hr with rfl | rfl
      · exact ⟨_, _, rfl, rfl, fun w1 _ => number_any n.size (by omega) (txt (lay n (lay l (lay h (lay x (vb (zig m) ++ [])))))) (n.data.toList ++ (lay l (lay h (lay x (vb (zig m) ++ []))))) (by rw [txt_size]; have := lay_len_0 n l h x m []; omega) rfl w1⟩
      · exact ⟨_, _, rfl, rfl, fun w1 _ => number_any l.size (by omega) (txt (lay l (lay h (lay x (vb (zig m) ++ []))))) (l.data.toList ++ (lay h (lay x (vb (zig m) ++ [])))) (by rw [txt_size]; have := lay_len_1 n l h x m []; omega) rfl w1⟩
    · refine ans_ok fun r hr => ?_
      obtain rfl : r = ([.symInt .u64 6], .symInt .i64 4) := by simpa using hr
      exact ⟨_, _, rfl, rfl, fun w1 _ => zag_any m hlo hhi w1⟩
    · refine ans_ok fun r hr => ?_
      simp only [List.mem_cons, List.mem_nil_iff, or_false] at hr
      rcases hr with rfl | rfl | rfl | rfl | rfl
      · exact ⟨_, _, rfl, rfl, fun w1 _ => clone_any n (by first | omega | (rw [txt_size]; omega)) w1⟩
      · exact ⟨_, _, rfl, rfl, fun w1 _ => clone_any l (by first | omega | (rw [txt_size]; omega)) w1⟩
      · exact ⟨_, _, rfl, rfl, fun w1 _ => clone_any h (by first | omega | (rw [txt_size]; omega)) w1⟩
      · exact ⟨_, _, rfl, rfl, fun w1 _ => clone_any x (by first | omega | (rw [txt_size]; omega)) w1⟩
      · exact ⟨_, _, rfl, rfl, fun w1 _ => clone_any (txt (cur n l h x m [])) (by first | omega | (rw [txt_size]; omega)) w1⟩
  exact calls_val (withAll_ok (ctx_ok [] K) (fun _ _ _ h => h.σ) (fun _ _ _ _ _ _ _ h => by cases h) F G) mixed (by rw [← runF_eq]; exact runshort1 σ0) (fun i hi => by
    obtain ⟨k, rfl⟩ : ∃ k, i = k + 80 := ⟨i - 80, by have : 80 ≤ i := hi; omega⟩
    rfl) rfl rfl
noncomputable def factsshort2 : List (BinOp × AV × AV × AV) := [(.sub, .symLen 12, .int .i64 4, .symInt .i64 13), (.lss, .symInt .i64 13, .int .i64 0, .bool false), (.neq, .symInt .u32 10, .symInt .u32 10, .bool false), (.gtr, .symInt .u64 20, .int .u64 40, .bool false), (.gtr, .symInt .i64 21, .symLen 22, .bool false), (.gtr, .symInt .u64 30, .int .u64 60, .bool false), (.gtr, .symInt .i64 31, .symLen 32, .bool false), (.gtr, .symInt .u64 40, .int .u64 60, .bool true)]
noncomputable def ofactsshort2 : List ((Nat × Nat × Nat) × List AV × AV) := [((6, 9, 2), [.symStr 12, .symInt .i64 13], .symStr 9), ((7, 53, 3), [.symInt .u64 20], .symInt .i64 21), ((6, 9, 2), [.symStr 22, .symInt .i64 21], .symStr 0), ((6, 9, 1), [.symStr 22, .symInt .i64 21], .symStr 23), ((7, 53, 3), [.symInt .u64 30], .symInt .i64 31), ((6, 9, 2), [.symStr 32, .symInt .i64 31], .symStr 1), ((6, 9, 1), [.symStr 32, .symInt .i64 31], .symStr 33)]
noncomputable def consshort2 : List (FuncId × Con) := [(39, .ans [([.symStr 12, .symInt .i64 13], .symInt .u32 10)]), (36, .fn (rowFn [([.symStr 9], .symInt .u32 10)])), (80, .ans [([.symStr 9], .tuple [.symInt .u64 20, .symStr 22, .int .i64 0]), ([.symStr 23], .tuple [.symInt .u64 30, .symStr 32, .int .i64 0]), ([.symStr 33], .tuple [.symInt .u64 40, .symStr 42, .int .i64 0])]), (43, .ans [([.symInt .u64 6], .symInt .i64 4)]), (21, .ans [([.symStr 0], .symStr 0), ([.symStr 1], .symStr 1), ([.symStr 2], .symStr 2), ([.symStr 3], .symStr 3), ([.symStr 9], .symStr 9)])]
theorem runshort2 (σ0 : Nat → Option Value) : saysVal (.tuple [.agg [.str [], .str [], .str [], .str [], .int .i64 0, .bool false], .int .i64 23]) (runF (withAll (ctx consshort2 []) factsshort2 ofactsshort2 σ0 fun _ _ => none) 100000 7 [.symStr 12] (heap0 80)) = true := by kernel_rfl
set_option maxHeartbeats 1600000 in
theorem short2 {n l h x : ByteArray} {m : Int} (hs : Small n l h x m) (c0 : n.size ≤ 40) (c1 : l.size ≤ 60) (c2 : ¬ h.size ≤ 60) (d : UInt8) (hcrc : crc (cur n l h x m []) = rd4 (cut1 (sealed (txt (cur n l h x m [d])))) (txt (cur n l h x m [])).size) (w : World) :
    Calls Tryz.prog 7 #[.string (cut1 (sealed (txt (cur n l h x m [d]))))] w fun e w' => e = .returned (.tuple #[.agg #[.string ⟨#[]⟩, .string ⟨#[]⟩, .string ⟨#[]⟩, .string ⟨#[]⟩, .int .i64 0, .bool false], .int .i64 23]) ∧ Stands w w' := by
  obtain ⟨hn, hl, hh, hx, hlo, hhi⟩ := hs
  have hlen := cur_len n l h x m [] hn hl hh hx hlo hhi (by simp)
  have hlen4 := cut1_len n l h x m d
  let σ0 : Nat → Option Value := fun i => [Value.string n, .string l, .string h, .string x, .int .i64 m, Value.int .i64 0, .int .u64 (zig m), Value.int .i64 0, Value.int .i64 0, .string (txt (cur n l h x m [])), .int .u32 (rd4 (cut1 (sealed (txt (cur n l h x m [d])))) (txt (cur n l h x m [])).size : Nat), Value.int .i64 0, .string (cut1 (sealed (txt (cur n l h x m [d])))), .int .i64 ((txt (cur n l h x m [])).size : Nat), Value.int .i64 0, Value.int .i64 0, Value.int .i64 0, Value.int .i64 0, Value.int .i64 0, Value.int .i64 0, .int .u64 (n.size : Nat), .int .i64 (n.size : Nat), .string (txt (n.data.toList ++ (lay l (lay h (lay x (vb (zig m) ++ [])))))), .string (txt (lay l (lay h (lay x (vb (zig m) ++ []))))), Value.int .i64 0, Value.int .i64 0, Value.int .i64 0, Value.int .i64 0, Value.int .i64 0, Value.int .i64 0, .int .u64 (l.size : Nat), .int .i64 (l.size : Nat), .string (txt (l.data.toList ++ (lay h (lay x (vb (zig m) ++ []))))), .string (txt (lay h (lay x (vb (zig m) ++ [])))), Value.int .i64 0, Value.int .i64 0, Value.int .i64 0, Value.int .i64 0, Value.int .i64 0, Value.int .i64 0, .int .u64 (h.size : Nat), .int .i64 (h.size : Nat), .string (txt (h.data.toList ++ (lay x (vb (zig m) ++ [])))), .string (txt (lay x (vb (zig m) ++ []))), Value.int .i64 0, Value.int .i64 0, Value.int .i64 0, Value.int .i64 0, Value.int .i64 0, Value.int .i64 0, .int .u64 (x.size : Nat), .int .i64 (x.size : Nat), .string (txt (x.data.toList ++ (vb (zig m) ++ []))), .string (txt (vb (zig m) ++ []))][i]?
  have F : ∀ f ∈ factsshort2, FactOK Tryz.prog (withAll (ctx consshort2 []) factsshort2 ofactsshort2 σ0 fun _ _ => none) f := by
    intro f hf
    simp only [factsshort2, List.mem_cons, List.mem_nil_iff, or_false] at hf
    rcases hf with rfl | rfl | rfl | rfl | rfl | rfl | rfl | rfl
    · exact fact_sub rfl rfl rfl (sub4 hlen4 (by rw [txt_size]; omega))
    · exact fact_lss rfl rfl (not_neg _)
    · exact fact_neq rfl rfl (not_ne _)
    · exact fact_gtr rfl rfl (by first | exact (decide_eq_false (by omega)).symm | exact (decide_eq_false (by simp only [Int.ofNat_eq_natCast]; omega)).symm)
    · exact fact_gtr rfl rfl (gt_len _ _)
    · exact fact_gtr rfl rfl (by first | exact (decide_eq_false (by omega)).symm | exact (decide_eq_false (by simp only [Int.ofNat_eq_natCast]; omega)).symm)
    · exact fact_gtr rfl rfl (gt_len _ _)
    · exact fact_gtr rfl rfl (by first | exact (decide_eq_true (by omega)).symm | exact (decide_eq_true (by simp only [Int.ofNat_eq_natCast]; omega)).symm)
  have G : ∀ f ∈ ofactsshort2, OFactOK Tryz.prog (withAll (ctx consshort2 []) factsshort2 ofactsshort2 σ0 fun _ _ => none) f := by
    intro f hf
    simp only [ofactsshort2, List.mem_cons, List.mem_nil_iff, or_false] at hf
    rcases hf with rfl | rfl | rfl | rfl | rfl | rfl | rfl
    · exact ofact_slice_hi Tryz.underlying9 rfl rfl (by rw [cut1_pre]; rfl) (by rw [hlen4]; exact Nat.le_add_right _ _)
    · exact ofact_conv Tryz.underlying53 Tryz.underlying3 rfl rfl (wrap_size (by omega))
    · exact ofact_slice_hi Tryz.underlying9 rfl rfl (by rw [extract_head]; rfl) (le_txt _ _)
    · exact ofact_slice_lo Tryz.underlying9 rfl rfl (by rw [extract_tail]; rfl) (le_txt _ _)
    · exact ofact_conv Tryz.underlying53 Tryz.underlying3 rfl rfl (wrap_size (by omega))
    · exact ofact_slice_hi Tryz.underlying9 rfl rfl (by rw [extract_head]; rfl) (le_txt _ _)
    · exact ofact_slice_lo Tryz.underlying9 rfl rfl (by rw [extract_tail]; rfl) (le_txt _ _)
  have K : ∀ p ∈ consshort2, ConOK Tryz.prog (Outer w σ0 fun b => b < w.heap.size) p.1 p.2 := by
    intro p hp
    simp only [consshort2, List.mem_cons, List.mem_nil_iff, or_false] at hp
    rcases hp with rfl | rfl | rfl | rfl | rfl
    · refine ans_ok fun r hr => ?_
      obtain rfl : r = ([.symStr 12, .symInt .i64 13], .symInt .u32 10) := by simpa using hr
      refine ⟨_, _, rfl, rfl, fun w1 _ => (get_any (cut1 (sealed (txt (cur n l h x m [d])))) (txt (cur n l h x m [])).size (by rw [hlen4]; exact Nat.le_refl _) (by rw [hlen4, txt_size]; omega) w1).mono fun e w2 ⟨h1, h2⟩ => ⟨?_, stay h2⟩⟩
      rw [h1]
    · exact crc_row (s := txt (cur n l h x m [])) rfl (by rw [txt_list, hcrc]; rfl) (by rw [txt_size]; omega)
    · refine ans_ok fun r hr => ?_
      simp only [List.mem_cons, List.mem_nil_iff, or_false] at hr
      rcases hr with rfl | rfl | rfl
      · exact ⟨_, _, rfl, rfl, fun w1 _ => number_any n.size (by omega) (txt (lay n (lay l (lay h (lay x (vb (zig m) ++ [])))))) (n.data.toList ++ (lay l (lay h (lay x (vb (zig m) ++ []))))) (by rw [txt_size]; have := lay_len_0 n l h x m []; omega) rfl w1⟩
      · exact ⟨_, _, rfl, rfl, fun w1 _ => number_any l.size (by omega) (txt (lay l (lay h (lay x (vb (zig m) ++ []))))) (l.data.toList ++ (lay h (lay x (vb (zig m) ++ [])))) (by rw [txt_size]; have := lay_len_1 n l h x m []; omega) rfl w1⟩
      · exact ⟨_, _, rfl, rfl, fun w1 _ => number_any h.size (by omega) (txt (lay h (lay x (vb (zig m) ++ [])))) (h.data.toList ++ (lay x (vb (zig m) ++ []))) (by rw [txt_size]; have := lay_len_2 n l h x m []; omega) rfl w1⟩
    · refine ans_ok fun r hr => ?_
      obtain rfl : r = ([.symInt .u64 6], .symInt .i64 4) := by simpa using hr
      exact ⟨_, _, rfl, rfl, fun w1 _ => zag_any m hlo hhi w1⟩
    · refine ans_ok fun r hr => ?_
      simp only [List.mem_cons, List.mem_nil_iff, or_false] at hr
      rcases hr with rfl | rfl | rfl | rfl | rfl
      · exact ⟨_, _, rfl, rfl, fun w1 _ => clone_any n (by first | omega | (rw [txt_size]; omega)) w1⟩
      · exact ⟨_, _, rfl, rfl, fun w1 _ => clone_any l (by first | omega | (rw [txt_size]; omega)) w1⟩
      · exact ⟨_, _, rfl, rfl, fun w1 _ => clone_any h (by first | omega | (rw [txt_size]; omega)) w1⟩
      · exact ⟨_, _, rfl, rfl, fun w1 _ => clone_any x (by first | omega | (rw [txt_size]; omega)) w1⟩
      · exact ⟨_, _, rfl, rfl, fun w1 _ => clone_any (txt (cur n l h x m [])) (by first | omega | (rw [txt_size]; omega)) w1⟩
  exact calls_val (withAll_ok (ctx_ok [] K) (fun _ _ _ h => h.σ) (fun _ _ _ _ _ _ _ h => by cases h) F G) mixed (by rw [← runF_eq]; exact runshort2 σ0) (fun i hi => by
    obtain ⟨k, rfl⟩ : ∃ k, i = k + 80 := ⟨i - 80, by have : 80 ≤ i := hi; omega⟩
    rfl) rfl rfl
noncomputable def factsshort3 : List (BinOp × AV × AV × AV) := [(.sub, .symLen 12, .int .i64 4, .symInt .i64 13), (.lss, .symInt .i64 13, .int .i64 0, .bool false), (.neq, .symInt .u32 10, .symInt .u32 10, .bool false), (.gtr, .symInt .u64 20, .int .u64 40, .bool false), (.gtr, .symInt .i64 21, .symLen 22, .bool false), (.gtr, .symInt .u64 30, .int .u64 60, .bool false), (.gtr, .symInt .i64 31, .symLen 32, .bool false), (.gtr, .symInt .u64 40, .int .u64 60, .bool false), (.gtr, .symInt .i64 41, .symLen 42, .bool false), (.gtr, .symInt .u64 50, .int .u64 61, .bool true)]
noncomputable def ofactsshort3 : List ((Nat × Nat × Nat) × List AV × AV) := [((6, 9, 2), [.symStr 12, .symInt .i64 13], .symStr 9), ((7, 53, 3), [.symInt .u64 20], .symInt .i64 21), ((6, 9, 2), [.symStr 22, .symInt .i64 21], .symStr 0), ((6, 9, 1), [.symStr 22, .symInt .i64 21], .symStr 23), ((7, 53, 3), [.symInt .u64 30], .symInt .i64 31), ((6, 9, 2), [.symStr 32, .symInt .i64 31], .symStr 1), ((6, 9, 1), [.symStr 32, .symInt .i64 31], .symStr 33), ((7, 53, 3), [.symInt .u64 40], .symInt .i64 41), ((6, 9, 2), [.symStr 42, .symInt .i64 41], .symStr 2), ((6, 9, 1), [.symStr 42, .symInt .i64 41], .symStr 43)]
noncomputable def consshort3 : List (FuncId × Con) := [(39, .ans [([.symStr 12, .symInt .i64 13], .symInt .u32 10)]), (36, .fn (rowFn [([.symStr 9], .symInt .u32 10)])), (80, .ans [([.symStr 9], .tuple [.symInt .u64 20, .symStr 22, .int .i64 0]), ([.symStr 23], .tuple [.symInt .u64 30, .symStr 32, .int .i64 0]), ([.symStr 33], .tuple [.symInt .u64 40, .symStr 42, .int .i64 0]), ([.symStr 43], .tuple [.symInt .u64 50, .symStr 52, .int .i64 0])]), (43, .ans [([.symInt .u64 6], .symInt .i64 4)]), (21, .ans [([.symStr 0], .symStr 0), ([.symStr 1], .symStr 1), ([.symStr 2], .symStr 2), ([.symStr 3], .symStr 3), ([.symStr 9], .symStr 9)])]
theorem runshort3 (σ0 : Nat → Option Value) : saysVal (.tuple [.agg [.str [], .str [], .str [], .str [], .int .i64 0, .bool false], .int .i64 23]) (runF (withAll (ctx consshort3 []) factsshort3 ofactsshort3 σ0 fun _ _ => none) 100000 7 [.symStr 12] (heap0 80)) = true := by kernel_rfl
set_option maxHeartbeats 1600000 in
theorem short3 {n l h x : ByteArray} {m : Int} (hs : Small n l h x m) (c0 : n.size ≤ 40) (c1 : l.size ≤ 60) (c2 : h.size ≤ 60) (c3 : ¬ x.size ≤ 61) (d : UInt8) (hcrc : crc (cur n l h x m []) = rd4 (cut1 (sealed (txt (cur n l h x m [d])))) (txt (cur n l h x m [])).size) (w : World) :
    Calls Tryz.prog 7 #[.string (cut1 (sealed (txt (cur n l h x m [d]))))] w fun e w' => e = .returned (.tuple #[.agg #[.string ⟨#[]⟩, .string ⟨#[]⟩, .string ⟨#[]⟩, .string ⟨#[]⟩, .int .i64 0, .bool false], .int .i64 23]) ∧ Stands w w' := by
  obtain ⟨hn, hl, hh, hx, hlo, hhi⟩ := hs
  have hlen := cur_len n l h x m [] hn hl hh hx hlo hhi (by simp)
  have hlen4 := cut1_len n l h x m d
  let σ0 : Nat → Option Value := fun i => [Value.string n, .string l, .string h, .string x, .int .i64 m, Value.int .i64 0, .int .u64 (zig m), Value.int .i64 0, Value.int .i64 0, .string (txt (cur n l h x m [])), .int .u32 (rd4 (cut1 (sealed (txt (cur n l h x m [d])))) (txt (cur n l h x m [])).size : Nat), Value.int .i64 0, .string (cut1 (sealed (txt (cur n l h x m [d])))), .int .i64 ((txt (cur n l h x m [])).size : Nat), Value.int .i64 0, Value.int .i64 0, Value.int .i64 0, Value.int .i64 0, Value.int .i64 0, Value.int .i64 0, .int .u64 (n.size : Nat), .int .i64 (n.size : Nat), .string (txt (n.data.toList ++ (lay l (lay h (lay x (vb (zig m) ++ [])))))), .string (txt (lay l (lay h (lay x (vb (zig m) ++ []))))), Value.int .i64 0, Value.int .i64 0, Value.int .i64 0, Value.int .i64 0, Value.int .i64 0, Value.int .i64 0, .int .u64 (l.size : Nat), .int .i64 (l.size : Nat), .string (txt (l.data.toList ++ (lay h (lay x (vb (zig m) ++ []))))), .string (txt (lay h (lay x (vb (zig m) ++ [])))), Value.int .i64 0, Value.int .i64 0, Value.int .i64 0, Value.int .i64 0, Value.int .i64 0, Value.int .i64 0, .int .u64 (h.size : Nat), .int .i64 (h.size : Nat), .string (txt (h.data.toList ++ (lay x (vb (zig m) ++ [])))), .string (txt (lay x (vb (zig m) ++ []))), Value.int .i64 0, Value.int .i64 0, Value.int .i64 0, Value.int .i64 0, Value.int .i64 0, Value.int .i64 0, .int .u64 (x.size : Nat), .int .i64 (x.size : Nat), .string (txt (x.data.toList ++ (vb (zig m) ++ []))), .string (txt (vb (zig m) ++ []))][i]?
  have F : ∀ f ∈ factsshort3, FactOK Tryz.prog (withAll (ctx consshort3 []) factsshort3 ofactsshort3 σ0 fun _ _ => none) f := by
    intro f hf
    simp only [factsshort3, List.mem_cons, List.mem_nil_iff, or_false] at hf
    rcases hf with rfl | rfl | rfl | rfl | rfl | rfl | rfl | rfl | rfl | rfl
    · exact fact_sub rfl rfl rfl (sub4 hlen4 (by rw [txt_size]; omega))
    · exact fact_lss rfl rfl (not_neg _)
    · exact fact_neq rfl rfl (not_ne _)
    · exact fact_gtr rfl rfl (by first | exact (decide_eq_false (by omega)).symm | exact (decide_eq_false (by simp only [Int.ofNat_eq_natCast]; omega)).symm)
    · exact fact_gtr rfl rfl (gt_len _ _)
    · exact fact_gtr rfl rfl (by first | exact (decide_eq_false (by omega)).symm | exact (decide_eq_false (by simp only [Int.ofNat_eq_natCast]; omega)).symm)
    · exact fact_gtr rfl rfl (gt_len _ _)
    · exact fact_gtr rfl rfl (by first | exact (decide_eq_false (by omega)).symm | exact (decide_eq_false (by simp only [Int.ofNat_eq_natCast]; omega)).symm)
    · exact fact_gtr rfl rfl (gt_len _ _)
    · exact fact_gtr rfl rfl (by first | exact (decide_eq_true (by omega)).symm | exact (decide_eq_true (by simp only [Int.ofNat_eq_natCast]; omega)).symm)
  have G : ∀ f ∈ ofactsshort3, OFactOK Tryz.prog (withAll (ctx consshort3 []) factsshort3 ofactsshort3 σ0 fun _ _ => none) f := by
    intro f hf
    simp only [ofactsshort3, List.mem_cons, List.mem_nil_iff, or_false] at hf
    rcases hf with rfl | rfl | rfl | rfl | rfl | rfl | rfl | rfl | rfl | rfl
    · exact ofact_slice_hi Tryz.underlying9 rfl rfl (by rw [cut1_pre]; rfl) (by rw [hlen4]; exact Nat.le_add_right _ _)
    · exact ofact_conv Tryz.underlying53 Tryz.underlying3 rfl rfl (wrap_size (by omega))
    · exact ofact_slice_hi Tryz.underlying9 rfl rfl (by rw [extract_head]; rfl) (le_txt _ _)
    · exact ofact_slice_lo Tryz.underlying9 rfl rfl (by rw [extract_tail]; rfl) (le_txt _ _)
    · exact ofact_conv Tryz.underlying53 Tryz.underlying3 rfl rfl (wrap_size (by omega))
    · exact ofact_slice_hi Tryz.underlying9 rfl rfl (by rw [extract_head]; rfl) (le_txt _ _)
    · exact ofact_slice_lo Tryz.underlying9 rfl rfl (by rw [extract_tail]; rfl) (le_txt _ _)
    · exact ofact_conv Tryz.underlying53 Tryz.underlying3 rfl rfl (wrap_size (by omega))
    · exact ofact_slice_hi Tryz.underlying9 rfl rfl (by rw [extract_head]; rfl) (le_txt _ _)
    · exact ofact_slice_lo Tryz.underlying9 rfl rfl (by rw [extract_tail]; rfl) (le_txt _ _)
  have K : ∀ p ∈ consshort3, ConOK Tryz.prog (Outer w σ0 fun b => b < w.heap.size) p.1 p.2 := by
    intro p hp
    simp only [consshort3, List.mem_cons, List.mem_nil_iff, or_false] at hp
    rcases hp with rfl | rfl | rfl | rfl | rfl
    · refine ans_ok fun r hr => ?_
      obtain rfl : r = ([.symStr 12, .symInt .i64 13], .symInt .u32 10) := by simpa using hr
      refine ⟨_, _, rfl, rfl, fun w1 _ => (get_any (cut1 (sealed (txt (cur n l h x m [d])))) (txt (cur n l h x m [])).size (by rw [hlen4]; exact Nat.le_refl _) (by rw [hlen4, txt_size]; omega) w1).mono fun e w2 ⟨h1, h2⟩ => ⟨?_, stay h2⟩⟩
      rw [h1]
    · exact crc_row (s := txt (cur n l h x m [])) rfl (by rw [txt_list, hcrc]; rfl) (by rw [txt_size]; omega)
    · refine ans_ok fun r hr => ?_
      simp only [List.mem_cons, List.mem_nil_iff, or_false] at hr
      rcases hr with rfl | rfl | rfl | rfl
      · exact ⟨_, _, rfl, rfl, fun w1 _ => number_any n.size (by omega) (txt (lay n (lay l (lay h (lay x (vb (zig m) ++ [])))))) (n.data.toList ++ (lay l (lay h (lay x (vb (zig m) ++ []))))) (by rw [txt_size]; have := lay_len_0 n l h x m []; omega) rfl w1⟩
      · exact ⟨_, _, rfl, rfl, fun w1 _ => number_any l.size (by omega) (txt (lay l (lay h (lay x (vb (zig m) ++ []))))) (l.data.toList ++ (lay h (lay x (vb (zig m) ++ [])))) (by rw [txt_size]; have := lay_len_1 n l h x m []; omega) rfl w1⟩
      · exact ⟨_, _, rfl, rfl, fun w1 _ => number_any h.size (by omega) (txt (lay h (lay x (vb (zig m) ++ [])))) (h.data.toList ++ (lay x (vb (zig m) ++ []))) (by rw [txt_size]; have := lay_len_2 n l h x m []; omega) rfl w1⟩
      · exact ⟨_, _, rfl, rfl, fun w1 _ => number_any x.size (by omega) (txt (lay x (vb (zig m) ++ []))) (x.data.toList ++ (vb (zig m) ++ [])) (by rw [txt_size]; have := lay_len_3 n l h x m []; omega) rfl w1⟩
    · refine ans_ok fun r hr => ?_
      obtain rfl : r = ([.symInt .u64 6], .symInt .i64 4) := by simpa using hr
      exact ⟨_, _, rfl, rfl, fun w1 _ => zag_any m hlo hhi w1⟩
    · refine ans_ok fun r hr => ?_
      simp only [List.mem_cons, List.mem_nil_iff, or_false] at hr
      rcases hr with rfl | rfl | rfl | rfl | rfl
      · exact ⟨_, _, rfl, rfl, fun w1 _ => clone_any n (by first | omega | (rw [txt_size]; omega)) w1⟩
      · exact ⟨_, _, rfl, rfl, fun w1 _ => clone_any l (by first | omega | (rw [txt_size]; omega)) w1⟩
      · exact ⟨_, _, rfl, rfl, fun w1 _ => clone_any h (by first | omega | (rw [txt_size]; omega)) w1⟩
      · exact ⟨_, _, rfl, rfl, fun w1 _ => clone_any x (by first | omega | (rw [txt_size]; omega)) w1⟩
      · exact ⟨_, _, rfl, rfl, fun w1 _ => clone_any (txt (cur n l h x m [])) (by first | omega | (rw [txt_size]; omega)) w1⟩
  exact calls_val (withAll_ok (ctx_ok [] K) (fun _ _ _ h => h.σ) (fun _ _ _ _ _ _ _ h => by cases h) F G) mixed (by rw [← runF_eq]; exact runshort3 σ0) (fun i hi => by
    obtain ⟨k, rfl⟩ : ∃ k, i = k + 80 := ⟨i - 80, by have : 80 ≤ i := hi; omega⟩
    rfl) rfl rfl
noncomputable def factsshort8 : List (BinOp × AV × AV × AV) := [(.sub, .symLen 12, .int .i64 4, .symInt .i64 13), (.lss, .symInt .i64 13, .int .i64 0, .bool false), (.neq, .symInt .u32 10, .symInt .u32 10, .bool false), (.gtr, .symInt .u64 20, .int .u64 40, .bool false), (.gtr, .symInt .i64 21, .symLen 22, .bool false), (.gtr, .symInt .u64 30, .int .u64 60, .bool false), (.gtr, .symInt .i64 31, .symLen 32, .bool false), (.gtr, .symInt .u64 40, .int .u64 60, .bool false), (.gtr, .symInt .i64 41, .symLen 42, .bool false), (.gtr, .symInt .u64 50, .int .u64 61, .bool false), (.gtr, .symInt .i64 51, .symLen 52, .bool false)]
noncomputable def ofactsshort8 : List ((Nat × Nat × Nat) × List AV × AV) := [((6, 9, 2), [.symStr 12, .symInt .i64 13], .symStr 9), ((7, 53, 3), [.symInt .u64 20], .symInt .i64 21), ((6, 9, 2), [.symStr 22, .symInt .i64 21], .symStr 0), ((6, 9, 1), [.symStr 22, .symInt .i64 21], .symStr 23), ((7, 53, 3), [.symInt .u64 30], .symInt .i64 31), ((6, 9, 2), [.symStr 32, .symInt .i64 31], .symStr 1), ((6, 9, 1), [.symStr 32, .symInt .i64 31], .symStr 33), ((7, 53, 3), [.symInt .u64 40], .symInt .i64 41), ((6, 9, 2), [.symStr 42, .symInt .i64 41], .symStr 2), ((6, 9, 1), [.symStr 42, .symInt .i64 41], .symStr 43), ((7, 53, 3), [.symInt .u64 50], .symInt .i64 51), ((6, 9, 2), [.symStr 52, .symInt .i64 51], .symStr 3), ((6, 9, 1), [.symStr 52, .symInt .i64 51], .symStr 53)]
noncomputable def consshort8 : List (FuncId × Con) := [(39, .ans [([.symStr 12, .symInt .i64 13], .symInt .u32 10)]), (36, .fn (rowFn [([.symStr 9], .symInt .u32 10)])), (80, .ans [([.symStr 9], .tuple [.symInt .u64 20, .symStr 22, .int .i64 0]), ([.symStr 23], .tuple [.symInt .u64 30, .symStr 32, .int .i64 0]), ([.symStr 33], .tuple [.symInt .u64 40, .symStr 42, .int .i64 0]), ([.symStr 43], .tuple [.symInt .u64 50, .symStr 52, .int .i64 0]), ([.symStr 53], .tuple [.symInt .u64 6, .str [], .int .i64 0])]), (43, .ans [([.symInt .u64 6], .symInt .i64 4)]), (21, .ans [([.symStr 0], .symStr 0), ([.symStr 1], .symStr 1), ([.symStr 2], .symStr 2), ([.symStr 3], .symStr 3), ([.symStr 9], .symStr 9)])]
theorem runshort8 (σ0 : Nat → Option Value) : saysVal (.tuple [.agg [.str [], .str [], .str [], .str [], .int .i64 0, .bool false], .int .i64 23]) (runF (withAll (ctx consshort8 []) factsshort8 ofactsshort8 σ0 fun _ _ => none) 100000 7 [.symStr 12] (heap0 80)) = true := by kernel_rfl
set_option maxHeartbeats 1600000 in
theorem short8 {n l h x : ByteArray} {m : Int} (hs : Small n l h x m) (c0 : n.size ≤ 40) (c1 : l.size ≤ 60) (c2 : h.size ≤ 60) (c3 : x.size ≤ 61) (d : UInt8) (hcrc : crc (cur n l h x m []) = rd4 (cut1 (sealed (txt (cur n l h x m [d])))) (txt (cur n l h x m [])).size) (w : World) :
    Calls Tryz.prog 7 #[.string (cut1 (sealed (txt (cur n l h x m [d]))))] w fun e w' => e = .returned (.tuple #[.agg #[.string ⟨#[]⟩, .string ⟨#[]⟩, .string ⟨#[]⟩, .string ⟨#[]⟩, .int .i64 0, .bool false], .int .i64 23]) ∧ Stands w w' := by
  obtain ⟨hn, hl, hh, hx, hlo, hhi⟩ := hs
  have hlen := cur_len n l h x m [] hn hl hh hx hlo hhi (by simp)
  have hlen4 := cut1_len n l h x m d
  let σ0 : Nat → Option Value := fun i => [Value.string n, .string l, .string h, .string x, .int .i64 m, Value.int .i64 0, .int .u64 (zig m), Value.int .i64 0, Value.int .i64 0, .string (txt (cur n l h x m [])), .int .u32 (rd4 (cut1 (sealed (txt (cur n l h x m [d])))) (txt (cur n l h x m [])).size : Nat), Value.int .i64 0, .string (cut1 (sealed (txt (cur n l h x m [d])))), .int .i64 ((txt (cur n l h x m [])).size : Nat), Value.int .i64 0, Value.int .i64 0, Value.int .i64 0, Value.int .i64 0, Value.int .i64 0, Value.int .i64 0, .int .u64 (n.size : Nat), .int .i64 (n.size : Nat), .string (txt (n.data.toList ++ (lay l (lay h (lay x (vb (zig m) ++ [])))))), .string (txt (lay l (lay h (lay x (vb (zig m) ++ []))))), Value.int .i64 0, Value.int .i64 0, Value.int .i64 0, Value.int .i64 0, Value.int .i64 0, Value.int .i64 0, .int .u64 (l.size : Nat), .int .i64 (l.size : Nat), .string (txt (l.data.toList ++ (lay h (lay x (vb (zig m) ++ []))))), .string (txt (lay h (lay x (vb (zig m) ++ [])))), Value.int .i64 0, Value.int .i64 0, Value.int .i64 0, Value.int .i64 0, Value.int .i64 0, Value.int .i64 0, .int .u64 (h.size : Nat), .int .i64 (h.size : Nat), .string (txt (h.data.toList ++ (lay x (vb (zig m) ++ [])))), .string (txt (lay x (vb (zig m) ++ []))), Value.int .i64 0, Value.int .i64 0, Value.int .i64 0, Value.int .i64 0, Value.int .i64 0, Value.int .i64 0, .int .u64 (x.size : Nat), .int .i64 (x.size : Nat), .string (txt (x.data.toList ++ (vb (zig m) ++ []))), .string (txt (vb (zig m) ++ []))][i]?
  have F : ∀ f ∈ factsshort8, FactOK Tryz.prog (withAll (ctx consshort8 []) factsshort8 ofactsshort8 σ0 fun _ _ => none) f := by
    intro f hf
    simp only [factsshort8, List.mem_cons, List.mem_nil_iff, or_false] at hf
    rcases hf with rfl | rfl | rfl | rfl | rfl | rfl | rfl | rfl | rfl | rfl | rfl
    · exact fact_sub rfl rfl rfl (sub4 hlen4 (by rw [txt_size]; omega))
    · exact fact_lss rfl rfl (not_neg _)
    · exact fact_neq rfl rfl (not_ne _)
    · exact fact_gtr rfl rfl (by first | exact (decide_eq_false (by omega)).symm | exact (decide_eq_false (by simp only [Int.ofNat_eq_natCast]; omega)).symm)
    · exact fact_gtr rfl rfl (gt_len _ _)
    · exact fact_gtr rfl rfl (by first | exact (decide_eq_false (by omega)).symm | exact (decide_eq_false (by simp only [Int.ofNat_eq_natCast]; omega)).symm)
    · exact fact_gtr rfl rfl (gt_len _ _)
    · exact fact_gtr rfl rfl (by first | exact (decide_eq_false (by omega)).symm | exact (decide_eq_false (by simp only [Int.ofNat_eq_natCast]; omega)).symm)
    · exact fact_gtr rfl rfl (gt_len _ _)
    · exact fact_gtr rfl rfl (by first | exact (decide_eq_false (by omega)).symm | exact (decide_eq_false (by simp only [Int.ofNat_eq_natCast]; omega)).symm)
    · exact fact_gtr rfl rfl (gt_len _ _)
  have G : ∀ f ∈ ofactsshort8, OFactOK Tryz.prog (withAll (ctx consshort8 []) factsshort8 ofactsshort8 σ0 fun _ _ => none) f := by
    intro f hf
    simp only [ofactsshort8, List.mem_cons, List.mem_nil_iff, or_false] at hf
    rcases hf with rfl | rfl | rfl | rfl | rfl | rfl | rfl | rfl | rfl | rfl | rfl | rfl | rfl
    · exact ofact_slice_hi Tryz.underlying9 rfl rfl (by rw [cut1_pre]; rfl) (by rw [hlen4]; exact Nat.le_add_right _ _)
    · exact ofact_conv Tryz.underlying53 Tryz.underlying3 rfl rfl (wrap_size (by omega))
    · exact ofact_slice_hi Tryz.underlying9 rfl rfl (by rw [extract_head]; rfl) (le_txt _ _)
    · exact ofact_slice_lo Tryz.underlying9 rfl rfl (by rw [extract_tail]; rfl) (le_txt _ _)
    · exact ofact_conv Tryz.underlying53 Tryz.underlying3 rfl rfl (wrap_size (by omega))
    · exact ofact_slice_hi Tryz.underlying9 rfl rfl (by rw [extract_head]; rfl) (le_txt _ _)
    · exact ofact_slice_lo Tryz.underlying9 rfl rfl (by rw [extract_tail]; rfl) (le_txt _ _)
    · exact ofact_conv Tryz.underlying53 Tryz.underlying3 rfl rfl (wrap_size (by omega))
    · exact ofact_slice_hi Tryz.underlying9 rfl rfl (by rw [extract_head]; rfl) (le_txt _ _)
    · exact ofact_slice_lo Tryz.underlying9 rfl rfl (by rw [extract_tail]; rfl) (le_txt _ _)
    · exact ofact_conv Tryz.underlying53 Tryz.underlying3 rfl rfl (wrap_size (by omega))
    · exact ofact_slice_hi Tryz.underlying9 rfl rfl (by rw [extract_head]; rfl) (le_txt _ _)
    · exact ofact_slice_lo Tryz.underlying9 rfl rfl (by rw [extract_tail]; rfl) (le_txt _ _)
  have K : ∀ p ∈ consshort8, ConOK Tryz.prog (Outer w σ0 fun b => b < w.heap.size) p.1 p.2 := by
    intro p hp
    simp only [consshort8, List.mem_cons, List.mem_nil_iff, or_false] at hp
    rcases hp with rfl | rfl | rfl | rfl | rfl
    · refine ans_ok fun r hr => ?_
      obtain rfl : r = ([.symStr 12, .symInt .i64 13], .symInt .u32 10) := by simpa using hr
      refine ⟨_, _, rfl, rfl, fun w1 _ => (get_any (cut1 (sealed (txt (cur n l h x m [d])))) (txt (cur n l h x m [])).size (by rw [hlen4]; exact Nat.le_refl _) (by rw [hlen4, txt_size]; omega) w1).mono fun e w2 ⟨h1, h2⟩ => ⟨?_, stay h2⟩⟩
      rw [h1]
    · exact crc_row (s := txt (cur n l h x m [])) rfl (by rw [txt_list, hcrc]; rfl) (by rw [txt_size]; omega)
    · refine ans_ok fun r hr => ?_
      simp only [List.mem_cons, List.mem_nil_iff, or_false] at hr
      rcases hr with rfl | rfl | rfl | rfl | rfl
      · exact ⟨_, _, rfl, rfl, fun w1 _ => number_any n.size (by omega) (txt (lay n (lay l (lay h (lay x (vb (zig m) ++ [])))))) (n.data.toList ++ (lay l (lay h (lay x (vb (zig m) ++ []))))) (by rw [txt_size]; have := lay_len_0 n l h x m []; omega) rfl w1⟩
      · exact ⟨_, _, rfl, rfl, fun w1 _ => number_any l.size (by omega) (txt (lay l (lay h (lay x (vb (zig m) ++ []))))) (l.data.toList ++ (lay h (lay x (vb (zig m) ++ [])))) (by rw [txt_size]; have := lay_len_1 n l h x m []; omega) rfl w1⟩
      · exact ⟨_, _, rfl, rfl, fun w1 _ => number_any h.size (by omega) (txt (lay h (lay x (vb (zig m) ++ [])))) (h.data.toList ++ (lay x (vb (zig m) ++ []))) (by rw [txt_size]; have := lay_len_2 n l h x m []; omega) rfl w1⟩
      · exact ⟨_, _, rfl, rfl, fun w1 _ => number_any x.size (by omega) (txt (lay x (vb (zig m) ++ []))) (x.data.toList ++ (vb (zig m) ++ [])) (by rw [txt_size]; have := lay_len_3 n l h x m []; omega) rfl w1⟩
      · exact ⟨_, _, rfl, rfl, fun w1 _ => number_any (zig m) (zig_lt hlo hhi) (txt (vb (zig m) ++ [])) [] (by rw [txt_size]; have := lay_len_4 n l h x m []; omega) rfl w1⟩
    · refine ans_ok fun r hr => ?_
      obtain rfl : r = ([.symInt .u64 6], .symInt .i64 4) := by simpa using hr
      exact ⟨_, _, rfl, rfl, fun w1 _ => zag_any m hlo hhi w1⟩
    · refine ans_ok fun r hr => ?_
      simp only [List.mem_cons, List.mem_nil_iff, or_false] at hr
      rcases hr with rfl | rfl | rfl | rfl | rfl
      · exact ⟨_, _, rfl, rfl, fun w1 _ => clone_any n (by first | omega | (rw [txt_size]; omega)) w1⟩
      · exact ⟨_, _, rfl, rfl, fun w1 _ => clone_any l (by first | omega | (rw [txt_size]; omega)) w1⟩
      · exact ⟨_, _, rfl, rfl, fun w1 _ => clone_any h (by first | omega | (rw [txt_size]; omega)) w1⟩
      · exact ⟨_, _, rfl, rfl, fun w1 _ => clone_any x (by first | omega | (rw [txt_size]; omega)) w1⟩
      · exact ⟨_, _, rfl, rfl, fun w1 _ => clone_any (txt (cur n l h x m [])) (by first | omega | (rw [txt_size]; omega)) w1⟩
  exact calls_val (withAll_ok (ctx_ok [] K) (fun _ _ _ h => h.σ) (fun _ _ _ _ _ _ _ h => by cases h) F G) mixed (by rw [← runF_eq]; exact runshort8 σ0) (fun i hi => by
    obtain ⟨k, rfl⟩ : ∃ k, i = k + 80 := ⟨i - 80, by have : 80 ≤ i := hi; omega⟩
    rfl) rfl rfl
end Go.Proofs.YtjjhphjbmllhhaaGreatDoor.Wk
