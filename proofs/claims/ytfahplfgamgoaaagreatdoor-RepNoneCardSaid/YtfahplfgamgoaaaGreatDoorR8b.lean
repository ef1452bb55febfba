/-
  A machine that runs the model with abstract blocks, and lemmas on it: whatever it answers of a call is what the model does (ProgOK, Base: the conditions).
-/
import Derived.Test.YtfahplfgamgoaaaGreatDoorR8
import Derived.Lib.Bytealg
import GoSem.ClaimGoes
namespace Go.VmK
variable {P : Program}
theorem cntByte_eq (c : UInt8) : ∀ s : List UInt8, cntByte c.toNat s = (s.filter (· == c)).length
  | [] => rfl
  | b :: r => by
    have e : Nat.beq b.toNat c.toNat = (b == c) := by rw [Bool.eq_iff_iff, Nat.beq_eq]; simp [UInt8.toNat_inj]
    unfold cntByte
    rw [e, List.filter_cons]
    cases b == c <;> simp [cntByte_eq c r]
theorem byte_mod (n : Nat) : Nat.mod n 256 = n.toUInt8.toNat := by
  show n % 256 = _
  simp [Nat.toUInt8, UInt8.toNat_ofNat']
theorem ext_count_ok {f : FuncId} {fn : Func} (hf : P.funcs[f]? = some fn) (h1 : (fn.name == "runtime.NumGoroutine") = false) (h2 : fn.body.isNone = true) (h3 : Extern.findNext fn = none) (h4 : Extern.find fn = some Extern.BytealgCount.count) : ExtOK P f .count :=
  fun s c w => by
    rw [run_callFunc_extern hf h1 h2 h3 h4, Lib.run_countString, byte_mod, cntByte_eq]
    simp [Result.andThen, Lib.countByte, List.count_eq_length_filter]
theorem compare_eq : ∀ x y : List UInt8, (bif ltL x y then Int.negSucc 0 else bif ltL y x then Int.ofNat 1 else Int.ofNat 0) = Lib.compareBytes x y
  | [], [] => rfl
  | [], _ :: _ => rfl
  | _ :: _, [] => rfl
  | a :: x, b :: y => by
    have ih := compare_eq x y
    have h1 : Nat.blt a.toNat b.toNat = decide (a < b) := by
      rw [Bool.eq_iff_iff]; simp [Nat.blt_eq, UInt8.lt_iff_toNat_lt]
    have h2 : Nat.blt b.toNat a.toNat = decide (b < a) := by
      rw [Bool.eq_iff_iff]; simp [Nat.blt_eq, UInt8.lt_iff_toNat_lt]
    have h3 : Nat.beq a.toNat b.toNat = decide (a = b) := by
      rw [Bool.eq_iff_iff, Nat.beq_eq]; simp [UInt8.toNat_inj]
    have h4 : Nat.beq b.toNat a.toNat = decide (a = b) := by
      rw [Bool.eq_iff_iff, Nat.beq_eq]; simp [UInt8.toNat_inj]; exact eq_comm
    simp only [ltL, h1, h2, h3, h4, Lib.compareBytes]
    by_cases hab : a < b
    · simp [hab]
    · by_cases hba : b < a
      · have hne : ¬ a = b := fun e => by subst e; exact hab hba
        simp [hab, hba, hne]
      · have he : a = b := by
          apply UInt8.toNat_inj.1
          rw [UInt8.lt_iff_toNat_lt] at hab hba
          omega
        subst he
        simpa [hab] using ih
theorem ext_compare_ok {f : FuncId} {fn : Func} (hf : P.funcs[f]? = some fn) (h1 : (fn.name == "runtime.NumGoroutine") = false) (h2 : fn.body.isNone = true) (h3 : Extern.findNext fn = none) (h4 : Extern.find fn = some Extern.BytealgCompare.compare) : ExtOK P f .compare :=
  fun x y w => by
    rw [run_callFunc_extern hf h1 h2 h3 h4, Lib.run_compareString, compare_eq]
    simp [Result.andThen]
/-- where no function at all starts a goroutine none that is called does -/
theorem goes_none (h : P.funcs.any Func.goes = false) (f : FuncId) : P.goes f = false := by
  unfold Program.goes
  rw [h, Bool.and_false, Bool.or_false, List.any_eq_false]
  intro g _
  cases hg : P.funcs[g]? with
  | none => simp
  | some fn =>
    have hm : fn ∈ P.funcs := Array.mem_of_getElem? hg
    rw [Array.any_eq_false'] at h
    simpa using h fn hm
theorem goesBy_none {c : OpenClaim} (hs : c.start = .entering) (h : P.funcs.any Func.goes = false) : false = c.goesBy P := by
  unfold OpenClaim.goesBy Program.goesAt Program.goesFrom
  rw [hs]
  simp only [Bool.or_false]
  cases P.funcNamed c.func with
  | none => rfl
  | some f => exact (goes_none h f).symm
end Go.VmK
