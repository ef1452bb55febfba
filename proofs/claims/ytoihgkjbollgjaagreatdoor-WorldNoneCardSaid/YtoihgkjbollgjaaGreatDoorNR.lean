/-
  Part of the proof of a statement of this seat: walks of its functions and the closed run; no condition but those written in each theorem.
-/
import Derived.Test.YtoihgkjbollgjaaGreatDoorNA
import Derived.Test.YtoihgkjbollgjaaGreatDoorJKit
import Derived.WalkKit
import Derived.Deep.RegionWith
import Derived.Laws.RangeString
import Derived.Lib.Hide
namespace Go.Proofs.YtoihgkjbollgjaaGreatDoor.Wk
set_option maxRecDepth 100000
open Go.RowKit Go.VmK
def nonT : List UInt8 → Nat
  | [] => 0
  | c :: l => if c = 116 then nonT l else nonT l + 1
theorem nonT_app (l m : List UInt8) : nonT (l ++ m) = nonT l + nonT m := by
  induction l with
  | nil => simp [nonT]
  | cons c l ih => by_cases h : c = 116 <;> simp [nonT, h, ih]; omega
theorem nonT_cnt (l : List UInt8) : cntByte 116 l + nonT l = l.length := by
  induction l with
  | nil => rfl
  | cons c l ih =>
    by_cases h : c = 116
    · subst h
      have : Nat.beq (116 : UInt8).toNat 116 = true := rfl
      simp only [cntByte, this, cond_true, nonT, if_true, List.length_cons]
      omega
    · have : Nat.beq c.toNat 116 = false := by
        cases hb : Nat.beq c.toNat 116 with
        | false => rfl
        | true => exact absurd (UInt8.toNat_inj.1 (Nat.eq_of_beq_eq_true hb)) h
      simp only [cntByte, this, cond_false, nonT, if_neg h, List.length_cons]
      omega
theorem nonT_take (l : List UInt8) (k : Nat) (h : k < l.length) : nonT (l.take (k + 1)) = nonT (l.take k) + if l[k] = 116 then 0 else 1 := by
  rw [List.take_succ_eq_append_getElem h, nonT_app]
  by_cases hc : l[k] = 116 <;> simp [nonT, hc]
theorem nonT_lt (l : List UInt8) (k : Nat) (h : k < l.length) (hc : l[k] ≠ 116) : nonT (l.take k) < nonT l := by
  have h1 : nonT l = nonT (l.take (k + 1)) + nonT (l.drop (k + 1)) := by rw [← nonT_app, List.take_append_drop]
  rw [h1, nonT_take l k h, if_neg hc]
  omega
theorem good_small {l : List UInt8} (h : Good l) : l.length ≤ 62 ∧ ∀ c ∈ l, c = 116 ∨ c = 110 ∨ c = 98 := by
  rcases h with ⟨p, hp, rfl⟩ | ⟨k, _, h2, rfl⟩
  · have : tbl.all (fun p => decide (p.2.length ≤ 62) && p.2.all fun c => decide (c = 116 ∨ c = 110 ∨ c = 98)) = true := by decide +kernel
    have := List.all_eq_true.1 this p hp
    simp only [Bool.and_eq_true, decide_eq_true_eq, List.all_eq_true] at this
    exact this
  · exact ⟨by simp; exact h2, fun c hc => .inr (.inl (List.eq_of_mem_replicate hc))⟩
theorem stands_iter (w : World) (s : ByteArray) (k : Nat) : Stands w (w.iter s k) := ⟨rfl, rfl, by simp [World.iter], fun b hb => RowKit.Below.heap_alloc w _ b hb⟩
/-- some text, and a truth -/
def TextBool (e : Ending) : Prop := ∃ s b, e = .returned (.tuple #[.string s, .bool b])
set_option maxHeartbeats 800000 in
theorem right_any (word : ByteArray) (no to : Option Addr) (nl nc tl tc : Nat) (zs : Nat → Int) (hnl : nl ≤ nc) (hn63 : nl ≤ 9223372036854775807) (ht63 : tl ≤ 9223372036854775807) (W : World)
    (hz : ∀ j, j < nl → ∃ bk off, no = some ⟨bk, off, none⟩ ∧ W.cell? ⟨bk, off + j, none⟩ = some (.int .i64 (zs j))) :
    Calls Tryz.prog 31 #[.agg #[.string word, .slice no nl nc, .slice to tl tc]] W fun e w' => TextBool e ∧ Stands W w' := by
  have b0 := cell_laid W #[.string word, .slice no nl nc, .slice to tl tc] 25 0 (.string word) rfl
  have b1 := cell_laid W #[.string word, .slice no nl nc, .slice to tl tc] 25 1 (.slice no nl nc) rfl
  have b2 := cell_laid W #[.string word, .slice no nl nc, .slice to tl tc] 25 2 (.slice to tl tc) rfl
  have st := Lib.hid (stands_alloc W #[.string word, .slice no nl nc, .slice to tl tc] 25)
  have hz := Lib.hid hz
  have hnl := Lib.hid hnl
  go_enter Tryz.func31, Tryz.ntmps31
  go_wp2_with fail
  refine (letters_any word _ _).mono ?_
  rintro e w1 ⟨⟨l, is, rfl, hl⟩, st1⟩
  have hl := Lib.hid hl
  replace b1 := stands_cell st1 b1
  replace b2 := stands_cell st1 b2
  have S1 := Lib.hid (st.out.trans st1)
  clear st1 b0
  cases is with
  | false =>
    go_wp2_with fail
    go_region
    all_goals
      go_wp2
      go_ret2
      exact ⟨⟨_, _, rfl⟩, S1.out.trans (stands_drew _)⟩
  | true =>
    obtain ⟨hg, hlen⟩ := hl.out rfl
    obtain ⟨hsm, hch⟩ := good_small hg
    have hg := Lib.hid hg
    have hch := Lib.hid hch
    have hlen := Lib.hid hlen
    go_wp2_with fail
    go_region_with (go_at_call 77; refine (count_any l hg.out _).mono ?_; rintro e w2 ⟨rfl, hst⟩; have hst' := (stands_drew _).trans hst; have d1 := stands_cell hst' b1; have d2 := stands_cell hst' b2; have S2 := Lib.hid (S1.out.trans hst'); clear hst hst')
    all_goals
      by_cases hcnt : (cntByte 116 l : Int) = (tl : Int)
      · have hT : nonT l = nl := by
          have h1 := nonT_cnt l
          have h2 := hlen.out
          unfold wrap64 at h2
          omega
        have hT := Lib.hid hT
        have hbn : ((cntByte 116 l : Int) != (tl : Int)) = false := by rw [hcnt]; simp
        clear hcnt
        go_wp2
        go_loopw [6, 8] (fun s6 _ wr => ∃ (k p q : Nat) (a : Option Addr), k ≤ l.length ∧ s6 = .slice a p q ∧ wr = w2.iter (bs l) k ∧ p + nonT (l.take k) = nl ∧ q + nonT (l.take k) = nc ∧ (0 < p → ∃ bk off, no = some ⟨bk, off, none⟩ ∧ a = some ⟨bk, off + nonT (l.take k), none⟩)) (fun _ _ wr => l.length - wr.iterPos w2.heap.size)
        case atStart => exact ⟨0, nl, nc, no, Nat.zero_le _, rfl, rfl, by simp [nonT], by simp [nonT], fun h => by
          obtain ⟨bk, off, h1, _⟩ := hz.out 0 h
          exact ⟨bk, off, h1, by rw [h1]; simp [nonT]⟩⟩
        case round =>
          obtain ⟨k, p, q, a, hk, rfl, rfl, hp, hq, ha⟩ := hrel
          by_cases hlt : k < l.length
          · have hsz : k < (bs l).size := hlt
            obtain ⟨c, hcl⟩ : ∃ c, c = l[k]'hlt := ⟨_, rfl⟩
            have hc : c = 116 ∨ c = 110 ∨ c = 98 := by rw [hcl]; exact hch.out _ (List.getElem_mem hlt)
            have hget : (bs l)[k]'hsz = c := by rw [hcl]; rfl
            have hnx := fun ty => run_next_ascii (P := Tryz.prog) w2 (bs l) k ty hsz (by rw [hget]; rcases hc with h | h | h <;> rw [h] <;> decide)
            have htk := nonT_take l k hlt
            have hlt3 := nonT_lt l k hlt
            rw [← hcl] at htk hlt3
            clear hcl
            by_cases h116 : c = 116
            · have hn2 : ∀ ty, (Instr.next (.pointer (some ⟨w2.heap.size, 0, none⟩)) true ty).run Tryz.prog (w2.iter (bs l) k) = .ok (.tuple #[.bool true, .int .i64 k, .int .i32 116]) (w2.iter (bs l) (k + 1)) := fun ty => by
                have h := hnx ty
                rw [hget, h116] at h
                exact h
              rw [if_pos h116, Nat.add_zero] at htk
              have htk := Lib.hid htk
              have hp := Lib.hid hp
              have hq := Lib.hid hq
              have ha := Lib.hid ha
              clear hnx hget hsz hc h116 hlt3
              go_wp2
              go_roundw
              case rel => exact ⟨k + 1, p, q, a, by omega, rfl, rfl, by rw [htk.out]; exact hp.out, by rw [htk.out]; exact hq.out, by rw [htk.out]; exact ha.out⟩
              case measure => simp only [World.iterPos_iter]; omega
            · have hlt2 := hlt3 h116
              rw [hT.out] at hlt2
              rw [if_neg h116] at htk
              have hp0 : 0 < p := by omega
              obtain ⟨bk, off, hno, rfl⟩ := ha hp0
              have hp1 : 1 ≤ p := hp0
              have hpq : p ≤ q := by have := hnl.out; omega
              have hcell : (w2.iter (bs l) (k + 1)).cell? ⟨bk, off + nonT (l.take k), none⟩ = some (.int .i64 (zs (nonT (l.take k)))) := by
                obtain ⟨bk', off', h1, h2⟩ := hz.out (nonT (l.take k)) (by omega)
                rw [hno] at h1
                cases h1
                exact stands_cell (S2.out.trans (stands_iter _ _ _)) h2
              have rel2 : ∃ a', (if q = 1 then (some ⟨bk, off + nonT (l.take k), none⟩ : Option Addr) else some ⟨bk, off + nonT (l.take k) + 1, none⟩) = a' ∧ (0 < p - 1 → a' = some ⟨bk, off + nonT (l.take (k + 1)), none⟩) := ⟨_, rfl, fun h => by rw [if_neg (by omega), htk]; rfl⟩
              obtain ⟨a', ha', hres⟩ := rel2
              have hres := Lib.hid hres
              have htk := Lib.hid htk
              have hp := Lib.hid hp
              have hq := Lib.hid hq
              replace hno := Lib.hid hno
              rcases hc with h | h | h
              · exact absurd h h116
              · have hn2 : ∀ ty, (Instr.next (.pointer (some ⟨w2.heap.size, 0, none⟩)) true ty).run Tryz.prog (w2.iter (bs l) k) = .ok (.tuple #[.bool true, .int .i64 k, .int .i32 110]) (w2.iter (bs l) (k + 1)) := fun ty => by
                  have h' := hnx ty
                  rw [hget, h] at h'
                  exact h'
                clear hnx hget hsz h116 h ha hlt3
                go_wp2
                go_roundw
                case rel => exact ⟨k + 1, p - 1, q - 1, a', by omega, by simp, rfl, by have := htk.out; have := hp.out; omega, by have := htk.out; have := hq.out; omega, fun h => ⟨bk, off, hno.out, hres.out h⟩⟩
                case measure => simp only [World.iterPos_iter]; omega
              · have hn2 : ∀ ty, (Instr.next (.pointer (some ⟨w2.heap.size, 0, none⟩)) true ty).run Tryz.prog (w2.iter (bs l) k) = .ok (.tuple #[.bool true, .int .i64 k, .int .i32 98]) (w2.iter (bs l) (k + 1)) := fun ty => by
                  have h' := hnx ty
                  rw [hget, h] at h'
                  exact h'
                clear hnx hget hsz h116 h ha hlt3
                go_wp2
                all_goals first
                  | (go_ret2
                     exact ⟨⟨_, _, rfl⟩, S2.out.trans (stands_iter _ _ _)⟩)
                  | (go_roundw
                     case rel => exact ⟨k + 1, p - 1, q - 1, a', by omega, by simp, rfl, by have := htk.out; have := hp.out; omega, by have := htk.out; have := hq.out; omega, fun h => ⟨bk, off, hno.out, hres.out h⟩⟩
                     case measure => simp only [World.iterPos_iter]; omega)
          · have hne := fun ty => run_next_end (P := Tryz.prog) w2 (bs l) k ty (by show ¬ k < l.length; exact hlt)
            go_wp2
            go_ret2
            exact ⟨⟨_, _, rfl⟩, S2.out.trans (stands_iter _ _ _)⟩
      · go_wp2
        go_ret2
        exact ⟨⟨_, _, rfl⟩, S2.out⟩
end Go.Proofs.YtoihgkjbollgjaaGreatDoor.Wk
