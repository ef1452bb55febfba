/-
  Part of the proof of a statement of this seat: walks of its functions and the closed run; no condition but those written in each theorem.
-/
import Derived.Test.YtmolnkhehdjljaaGreatDoorAT0
import Derived.Test.YtmolnkhehdjljaaGreatDoorAT1
import Derived.Test.YtmolnkhehdjljaaGreatDoorAT2
import Derived.Test.YtmolnkhehdjljaaGreatDoorAT3
import Derived.Test.YtmolnkhehdjljaaGreatDoorAT4
import Derived.Test.YtmolnkhehdjljaaGreatDoorAT5
import Derived.Test.YtmolnkhehdjljaaGreatDoorAT6
import Derived.Test.YtmolnkhehdjljaaGreatDoorAT7
import Derived.Test.YtmolnkhehdjljaaGreatDoorAA
import Derived.Test.YtmolnkhehdjljaaGreatDoorV7
import Derived.ChangeMaps5
namespace Go.Proofs.YtmolnkhehdjljaaGreatDoor.Wk
set_option maxRecDepth 100000
open Go.RowKit Go.VmK
open Go.ChangeShapes Go.WideShapes
variable {H : Type} {enc : TypeId × Value → H}
theorem runs : ∀ k : Nat, k ≤ 60 → saysYes (runF (ctx consT []) 100000 3 [.int .i64 (Int.ofNat k)] (heap0 0)) = true
  | 0, _ => run0
  | 1, _ => run1
  | 2, _ => run2
  | 3, _ => run3
  | 4, _ => run4
  | 5, _ => run5
  | 6, _ => run6
  | 7, _ => run7
  | 8, _ => run8
  | 9, _ => run9
  | 10, _ => run10
  | 11, _ => run11
  | 12, _ => run12
  | 13, _ => run13
  | 14, _ => run14
  | 15, _ => run15
  | 16, _ => run16
  | 17, _ => run17
  | 18, _ => run18
  | 19, _ => run19
  | 20, _ => run20
  | 21, _ => run21
  | 22, _ => run22
  | 23, _ => run23
  | 24, _ => run24
  | 25, _ => run25
  | 26, _ => run26
  | 27, _ => run27
  | 28, _ => run28
  | 29, _ => run29
  | 30, _ => run30
  | 31, _ => run31
  | 32, _ => run32
  | 33, _ => run33
  | 34, _ => run34
  | 35, _ => run35
  | 36, _ => run36
  | 37, _ => run37
  | 38, _ => run38
  | 39, _ => run39
  | 40, _ => run40
  | 41, _ => run41
  | 42, _ => run42
  | 43, _ => run43
  | 44, _ => run44
  | 45, _ => run45
  | 46, _ => run46
  | 47, _ => run47
  | 48, _ => run48
  | 49, _ => run49
  | 50, _ => run50
  | 51, _ => run51
  | 52, _ => run52
  | 53, _ => run53
  | 54, _ => run54
  | 55, _ => run55
  | 56, _ => run56
  | 57, _ => run57
  | 58, _ => run58
  | 59, _ => run59
  | 60, _ => run60
  | k + 61, h => absurd h (by omega)
theorem walk {W : World} {base : Nat} {v0 : Value} {d0 : DataW H} {p0 : List MemPlace} (hv0 : Value.okWide Tryz.prog W .any base 3 v0)
    (h0 : DataW.Trod enc Tryz.prog W 0 (fun _ => true) true 3 v0 d0 p0) :
    Calls Tryz.prog 3 #[v0] W fun e W' => e = .returned (.bool true) ∧ Stands W W' := by
  obtain ⟨x, rfl⟩ : ∃ x, v0 = .int .i64 x := by
    obtain ⟨x, h, _⟩ := Go.ChangeShapes.open_int Tryz.underlying3 hv0 h0
    exact ⟨x, h⟩
  let σ0 : Nat → Option Value := fun i => [Value.int .i64 x][i]?
  have hσ : ∀ i, 1 ≤ i → σ0 i = none := fun i hi => by
    obtain ⟨k, rfl⟩ : ∃ k, i = k + 1 := ⟨i - 1, by omega⟩
    rfl
  have consN_ok : ∀ p ∈ consN, ConOK Tryz.prog (Outer W σ0 fun b => b < W.heap.size) p.1 p.2 := by
    intro q hq
    simp only [consN, List.mem_cons, List.mem_nil_iff, or_false] at hq
    subst hq
    exact yes_ok rfl fun w _ => alive_yes w
  by_cases h1 : x < 0
  · have F : ∀ f ∈ factsLow, FactOK Tryz.prog (withFacts (ctx consN []) factsLow σ0) f := by
      intro f hf
      simp only [factsLow, List.mem_cons, List.mem_nil_iff, or_false] at hf
      subst hf
      exact fact_lss_int rfl (decide_eq_true h1).symm
    exact calls_yes (withFacts_ok (ctx_ok [] consN_ok) (fun _ _ _ h => h.σ) F) mixed (by rw [← runF_eq]; exact runLow σ0) hσ rfl
  · by_cases h2 : 60 < x
    · have F : ∀ f ∈ factsHigh, FactOK Tryz.prog (withFacts (ctx consN []) factsHigh σ0) f := by
        intro f hf
        simp only [factsHigh, List.mem_cons, List.mem_nil_iff, or_false] at hf
        rcases hf with rfl | rfl
        · exact fact_lss_int rfl (decide_eq_false h1).symm
        · exact fact_gtr_int rfl (decide_eq_true h2).symm
      exact calls_yes (withFacts_ok (ctx_ok [] consN_ok) (fun _ _ _ h => h.σ) F) mixed (by rw [← runF_eq]; exact runHigh σ0) hσ rfl
    · obtain ⟨k, rfl⟩ : ∃ k : Nat, x = Int.ofNat k := ⟨x.toNat, by simp; omega⟩
      have hk : k ≤ 60 := by simp at h2; omega
      refine calls_yes (σ0 := fun _ => none) (ctx_ok [] ?_) mixed (by rw [← runF_eq]; exact runs k hk) (fun _ _ => rfl) rfl
      intro q hq
      simp only [consT, List.mem_cons, List.mem_nil_iff, or_false] at hq
      rcases hq with rfl | rfl | rfl | rfl
      · exact sortOK
      · exact knownAP
      · exact knownAK
      · exact yes_ok rfl fun w _ => alive_yes w
end Go.Proofs.YtmolnkhehdjljaaGreatDoor.Wk
