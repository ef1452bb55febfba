/-
  Part of the proof of a statement of this seat: walks of its functions and the closed run; no condition but those written in each theorem.
-/
import Derived.Test.YtjjhphjbmllhhaaGreatDoorGPG0
import Derived.Test.YtjjhphjbmllhhaaGreatDoorGPG1
import Derived.Test.YtjjhphjbmllhhaaGreatDoorGPC
import Derived.Test.YtjjhphjbmllhhaaGreatDoorGPB
import Derived.Test.YtjjhphjbmllhhaaGreatDoorPValid
import Derived.Test.YtjjhphjbmllhhaaGreatDoorPPage2
namespace Go.Proofs.YtjjhphjbmllhhaaGreatDoor.Wk
set_option maxRecDepth 100000
open Go.RowKit Go.VmK Go.NumPure
def bit (d : Bool) : UInt8 := if d then 1 else 0
def zeroCur : Value := .agg #[.string ⟨#[]⟩, .string ⟨#[]⟩, .string ⟨#[]⟩, .string ⟨#[]⟩, .int .i64 0, .bool false]
/-- what a cursor's own text is read as -/
def readAs (n l h x : ByteArray) (m : Int) (d : Bool) : Value := if validB n l h x m then .tuple #[.agg #[.string n, .string l, .string h, .string x, .int .i64 m, .bool d], .int .i64 0] else .tuple #[zeroCur, .int .i64 23]
theorem put_any {n l h x : ByteArray} {m : Int} (hs : Small n l h x m) (d : Bool) (w : World) :
    Calls Tryz.prog 6 #[.agg #[.string n, .string l, .string h, .string x, .int .i64 m, .bool d]] w fun e w' => e = .returned (.string (sealed (txt (cur n l h x m [bit d])))) ∧ Stands w w' := by
  cases d with
  | true => exact put1 hs w
  | false => exact put0 hs w
theorem get_own {n l h x : ByteArray} {m : Int} (hs : Small n l h x m) (d : Bool) (w : World) :
    Calls Tryz.prog 7 #[.string (sealed (txt (cur n l h x m [bit d])))] w fun e w' => e = .returned (readAs n l h x m d) ∧ Stands w w' := by
  unfold readAs validB
  by_cases c0 : n.size ≤ 40
  case neg => rw [if_neg (by simp; omega)]; cases d; exact good0_0 hs c0 w; exact good0_1 hs c0 w
  by_cases c1 : l.size ≤ 60
  case neg => rw [if_neg (by simp; omega)]; cases d; exact good1_0 hs c0 c1 w; exact good1_1 hs c0 c1 w
  by_cases c2 : h.size ≤ 60
  case neg => rw [if_neg (by simp; omega)]; cases d; exact good2_0 hs c0 c1 c2 w; exact good2_1 hs c0 c1 c2 w
  by_cases c3 : x.size ≤ 61
  case neg => rw [if_neg (by simp; omega)]; cases d; exact good3_0 hs c0 c1 c2 c3 w; exact good3_1 hs c0 c1 c2 c3 w
  by_cases c4 : 1 ≤ n.size
  case neg => rw [if_neg (by simp; omega)]; cases d; exact good4_0 hs c0 c1 c2 c3 c4 w; exact good4_1 hs c0 c1 c2 c3 c4 w
  by_cases c5 : 1 ≤ m
  case neg => rw [if_neg (by simp; omega)]; cases d; exact good5_0 hs c0 c1 c2 c3 c4 c5 w; exact good5_1 hs c0 c1 c2 c3 c4 c5 w
  by_cases c6 : m ≤ 50
  case neg => rw [if_neg (by simp; omega)]; cases d; exact good6_0 hs c0 c1 c2 c3 c4 c5 c6 w; exact good6_1 hs c0 c1 c2 c3 c4 c5 c6 w
  cases c7 : Op.bytesLess x.toList l.toList with
  | true => rw [if_neg (by simp)]; cases d; exact good7_0 hs c0 c1 c2 c3 c4 c5 c6 c7 w; exact good7_1 hs c0 c1 c2 c3 c4 c5 c6 c7 w
  | false => rw [if_pos (by simp; omega)]; cases d; exact good8_0 hs c0 c1 c2 c3 c4 c5 c6 c7 w; exact good8_1 hs c0 c1 c2 c3 c4 c5 c6 c7 w
theorem get_short {n l h x : ByteArray} {m : Int} (hs : Small n l h x m) (d : UInt8) (w : World) :
    Calls Tryz.prog 7 #[.string (cut1 (sealed (txt (cur n l h x m [d]))))] w fun e w' => e = .returned (.tuple #[zeroCur, .int .i64 23]) ∧ Stands w w' := by
  have hlen := cur_len n l h x m [] hs.n hs.l hs.h hs.x hs.lo hs.hi (by simp)
  by_cases hc : crc (cur n l h x m []) = rd4 (cut1 (sealed (txt (cur n l h x m [d])))) (txt (cur n l h x m [])).size
  · by_cases c0 : n.size ≤ 40
    case neg => exact short0 hs c0 d hc w
    by_cases c1 : l.size ≤ 60
    case neg => exact short1 hs c0 c1 d hc w
    by_cases c2 : h.size ≤ 60
    case neg => exact short2 hs c0 c1 c2 d hc w
    by_cases c3 : x.size ≤ 61
    case neg => exact short3 hs c0 c1 c2 c3 d hc w
    exact short8 hs c0 c1 c2 c3 d hc w
  · have h4 := cut1_len n l h x m d
    refine bad (by omega) (by rw [h4, txt_size]; omega) ?_ w
    rw [h4, Nat.add_sub_cancel, cut1_pre, txt_list]
    exact fun e => hc e.symm
theorem get_changed (p : ByteArray) (hp : p.size ≤ 900000) (i : Nat) (v : UInt8) (hi : i < (sealed p).size) (hv : ¬ v.toNat = byteAt (sealed p) i) (w : World) :
    Calls Tryz.prog 7 #[.string (chg (sealed p) i v)] w fun e w' => e = .returned (.tuple #[zeroCur, .int .i64 23]) ∧ Stands w w' :=
  bad (by rw [chg_size, sealed_size]; omega) (by rw [chg_size, sealed_size]; omega) (changed_seen p i v hi hv) w
end Go.Proofs.YtjjhphjbmllhhaaGreatDoor.Wk
