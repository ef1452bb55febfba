/-
  Part of the proof of a statement of this seat: walks of its functions and the closed run; no condition but those written in each theorem.
-/
import Derived.Test.YtoihgkjbollgjaaGreatDoorNK
namespace Go.Proofs.YtoihgkjbollgjaaGreatDoor.Wk
set_option maxRecDepth 100000
open Go.RowKit Go.VmK
/-- what stands behind a word, written out -/
def Good (l : List UInt8) : Prop := (∃ p ∈ tbl, p.2 = l) ∨ ∃ k, 2 ≤ k ∧ k ≤ 62 ∧ l = List.replicate k 110
def bs (l : List UInt8) : ByteArray := ⟨l.toArray⟩
theorem crash_all (k : Nat) (h2 : 2 ≤ k) (h62 : k ≤ 62) : saysVal (.tuple [.str (List.replicate k 110), .bool true]) (runF (ctx consE []) 100000 76 [.str crash, .int .i64 (Int.ofNat k)] (heap0 0)) = true ∧ saysVal (.int .i64 0) (runF (ctx consE []) 100000 77 [.str (List.replicate k 110), .str [116]] (heap0 0)) = true := by
  have : (k ∈ List.range' 2 21) ∨ (k ∈ List.range' 23 20) ∨ (k ∈ List.range' 43 20) := by simp only [List.mem_range'_1]; omega
  rcases this with h | h | h
  · exact Bool.and_eq_true_iff.1 (List.all_eq_true.1 crash0 k h)
  · exact Bool.and_eq_true_iff.1 (List.all_eq_true.1 crash1 k h)
  · exact Bool.and_eq_true_iff.1 (List.all_eq_true.1 crash2 k h)
theorem low_none (σ0 : Nat → Option Value) : (fun _ => none : Nat → Option Value) = σ0 → ∀ i, 0 ≤ i → σ0 i = none := fun h i _ => by rw [← h]
theorem bs_data (s : ByteArray) : bs s.data.toList = s := by apply ByteArray.ext; simp [bs]
/-- what letters answers -/
def LettersEnd (n : Int) (e : Ending) : Prop := ∃ l is, e = .returned (.tuple #[.string (bs l), .bool is]) ∧ (is = true → Good l ∧ (l.length : Int) = n)
theorem letters_any (word : ByteArray) (n : Int) (W : World) :
    Calls Tryz.prog 76 #[.string word, .int .i64 n] W fun e w' => LettersEnd n e ∧ Stands W w' := by
  by_cases hw : ∃ p ∈ tbl, p.1 = word.data.toList
  · obtain ⟨p, hp, he⟩ := hw
    have hword : word = bs p.1 := by rw [he]; exact (bs_data word).symm
    by_cases hn : n = p.2.length
    · subst hn
      rw [hword]
      refine (calls_val (C := ctx consE []) (w0 := W) (σ0 := fun _ => none) (k := 0) (args := [.str p.1, .int .i64 (Int.ofNat p.2.length)]) (v := .tuple [.str p.2, .bool true]) (ctx_ok [] consE_ok) mixed (by rw [← runF_eq]; exact List.all_eq_true.1 lettersYes p hp) (fun _ _ => rfl) rfl rfl).mono fun e w' ⟨h1, h2⟩ => ⟨⟨p.2, true, h1, fun _ => ⟨.inl ⟨p, hp, rfl⟩, rfl⟩⟩, h2⟩
    · let σ0 : Nat → Option Value := fun i => [Value.int .i64 n][i]?
      have hσ : ∀ i, 1 ≤ i → σ0 i = none := fun i hi => by
        obtain ⟨j, rfl⟩ : ∃ j, i = j + 1 := ⟨i - 1, by omega⟩
        rfl
      rw [hword]
      refine (calls_val (C := withFacts (ctx consE []) (factsNo p) σ0) (w0 := W) (σ0 := σ0) (k := 1) (args := [.str p.1, .symInt .i64 0]) (v := .tuple [.str p.2, .bool false]) (withFacts_ok (ctx_ok [] consE_ok) rfl rfl (fun _ _ _ h => h.σ) ?_) mixed (by rw [← runF_eq]; exact List.all_eq_true.1 (lettersNo σ0) p hp) hσ rfl rfl).mono fun e w' ⟨h1, h2⟩ => ⟨⟨p.2, false, h1, fun h => (by cases h)⟩, h2⟩
      intro f hf
      simp only [factsNo, List.mem_cons, List.mem_nil_iff, or_false] at hf
      subst hf
      exact fact_eql (k := .i64) (n := n) (m := p.2.length) rfl rfl (decide_eq_false hn).symm
  · by_cases hc : word.data.toList = crash
    · have hword : word = bs crash := by rw [← hc]; exact (bs_data word).symm
      by_cases hl : n < 2
      · let σ0 : Nat → Option Value := fun i => [Value.int .i64 n][i]?
        have hσ : ∀ i, 1 ≤ i → σ0 i = none := fun i hi => by
          obtain ⟨j, rfl⟩ : ∃ j, i = j + 1 := ⟨i - 1, by omega⟩
          rfl
        rw [hword]
        refine (calls_val (C := withFacts (ctx consE []) factsLow σ0) (w0 := W) (σ0 := σ0) (k := 1) (args := [.str crash, .symInt .i64 0]) (v := .tuple [.str [], .bool false]) (withFacts_ok (ctx_ok [] consE_ok) rfl rfl (fun _ _ _ h => h.σ) ?_) mixed (by rw [← runF_eq]; exact crashLow σ0) hσ rfl rfl).mono fun e w' ⟨h1, h2⟩ => ⟨⟨[], false, h1, fun h => (by cases h)⟩, h2⟩
        intro f hf
        simp only [factsLow, List.mem_cons, List.mem_nil_iff, or_false] at hf
        subst hf
        exact fact_lss (k := .i64) (n := n) (m := 2) rfl rfl (decide_eq_true hl).symm
      · by_cases hh : 62 < n
        · let σ0 : Nat → Option Value := fun i => [Value.int .i64 n][i]?
          have hσ : ∀ i, 1 ≤ i → σ0 i = none := fun i hi => by
            obtain ⟨j, rfl⟩ : ∃ j, i = j + 1 := ⟨i - 1, by omega⟩
            rfl
          rw [hword]
          refine (calls_val (C := withFacts (ctx consE []) factsHigh σ0) (w0 := W) (σ0 := σ0) (k := 1) (args := [.str crash, .symInt .i64 0]) (v := .tuple [.str [], .bool false]) (withFacts_ok (ctx_ok [] consE_ok) rfl rfl (fun _ _ _ h => h.σ) ?_) mixed (by rw [← runF_eq]; exact crashHigh σ0) hσ rfl rfl).mono fun e w' ⟨h1, h2⟩ => ⟨⟨[], false, h1, fun h => (by cases h)⟩, h2⟩
          intro f hf
          simp only [factsHigh, List.mem_cons, List.mem_nil_iff, or_false] at hf
          rcases hf with rfl | rfl
          · exact fact_lss (k := .i64) (n := n) (m := 2) rfl rfl (decide_eq_false hl).symm
          · exact fact_gtr (k := .i64) (n := n) (m := 62) rfl rfl (decide_eq_true hh).symm
        · obtain ⟨k, rfl⟩ : ∃ k : Nat, n = k := ⟨n.toNat, by omega⟩
          rw [hword]
          exact (calls_val (C := ctx consE []) (w0 := W) (σ0 := fun _ => none) (k := 0) (args := [.str crash, .int .i64 (Int.ofNat k)]) (v := .tuple [.str (List.replicate k 110), .bool true]) (ctx_ok [] consE_ok) mixed (by rw [← runF_eq]; exact (crash_all k (by omega) (by omega)).1) (fun _ _ => rfl) rfl rfl).mono fun e w' ⟨h1, h2⟩ => ⟨⟨List.replicate k 110, true, h1, fun _ => ⟨.inr ⟨k, by omega, by omega, rfl⟩, by simp⟩⟩, h2⟩
    · let σ0 : Nat → Option Value := fun i => [Value.string word, .int .i64 n][i]?
      have hσ : ∀ i, 2 ≤ i → σ0 i = none := fun i hi => by
        obtain ⟨j, rfl⟩ : ∃ j, i = j + 2 := ⟨i - 2, by omega⟩
        rfl
      refine (calls_val (C := withFacts (ctx consE []) factsOther σ0) (w0 := W) (σ0 := σ0) (k := 2) (args := [.symStr 0, .symInt .i64 1]) (v := .tuple [.str [], .bool false]) (withFacts_ok (ctx_ok [] consE_ok) rfl rfl (fun _ _ _ h => h.σ) ?_) mixed (by rw [← runF_eq]; exact lettersOther σ0) hσ rfl rfl).mono fun e w' ⟨h1, h2⟩ => ⟨⟨[], false, h1, fun h => (by cases h)⟩, h2⟩
      intro f hf
      simp only [factsOther, List.mem_map] at hf
      obtain ⟨x, hx, rfl⟩ := hf
      refine fact_eqs (s := word) (t := bs x) rfl rfl (decide_eq_false fun h => ?_).symm
      have hd : word.data.toList = x := by rw [h]; rfl
      rcases List.mem_cons.1 hx with rfl | hx
      · exact hc hd
      · obtain ⟨p, hp, rfl⟩ := List.mem_map.1 hx
        exact hw ⟨p, hp, hd.symm⟩
theorem count_any (l : List UInt8) (hg : Good l) (W : World) :
    Calls Tryz.prog 77 #[.string (bs l), .string (bs [116])] W fun e w' => e = .returned (.int .i64 (cntByte 116 l)) ∧ Stands W w' := by
  rcases hg with ⟨p, hp, rfl⟩ | ⟨k, h2, h62, rfl⟩
  · exact calls_val (C := ctx consE []) (w0 := W) (σ0 := fun _ => none) (k := 0) (args := [.str p.2, .str [116]]) (v := .int .i64 (Int.ofNat (cntByte 116 p.2))) (ctx_ok [] consE_ok) mixed (by rw [← runF_eq]; exact List.all_eq_true.1 countTbl p hp) (fun _ _ => rfl) rfl rfl
  · have h0 : ∀ k, cntByte 116 (List.replicate k 110) = 0 := fun k => by
      induction k with
      | zero => rfl
      | succ k ih => rw [List.replicate_succ]; exact ih
    rw [h0]
    exact calls_val (C := ctx consE []) (w0 := W) (σ0 := fun _ => none) (k := 0) (args := [.str (List.replicate k 110), .str [116]]) (v := .int .i64 0) (ctx_ok [] consE_ok) mixed (by rw [← runF_eq]; exact (crash_all k h2 h62).2) (fun _ _ => rfl) rfl rfl
end Go.Proofs.YtoihgkjbollgjaaGreatDoor.Wk
