/-
  Part of the proof of a statement of this seat: walks of its functions and the closed run; no condition but those written in each theorem.
-/
import Derived.Test.YtanepmneapepkaaGreatDoorJB
import Derived.Test.YtanepmneapepkaaGreatDoorJK
import Derived.Test.YtanepmneapepkaaGreatDoorJP
import Derived.Test.YtanepmneapepkaaGreatDoorPKit
import Derived.Deep.RegionLaw
namespace Go.Proofs.YtanepmneapepkaaGreatDoor.Wk
set_option maxRecDepth 100000
open Go.RowKit Go.VmK Go.NumPure
def zs : Array Value := Array.replicate 301 (.int .u8 0)
def z301 : ByteArray := bytesOf (List.replicate 301 0)
theorem z301_size : z301.size = 301 := by
  show (z301.data.size = 301)
  simp [z301, bytesOf]
theorem make301 (w : World) : (Instr.makeSlice 33 (.int .i64 301) (.int .i64 301)).run Tryz.prog w = .ok (.slice (some ⟨w.heap.size, 0, none⟩) 301 301) (w.alloc (.cells zs 5)) := by kernel_rfl
theorem conv301 (w : World) : (convert 33 9 (.slice (some ⟨w.heap.size, 0, none⟩) 301 301)).run Tryz.prog (w.alloc (.cells zs 5)) = .ok (.string z301) (w.alloc (.cells zs 5)) :=
  conv_bytes (ns := List.replicate 301 0) Tryz.underlying33 Tryz.underlying5 Tryz.underlying9 w.heap.size 0 301 (by
    intro j n hn
    have hj : j < 301 := by have := (List.getElem?_eq_some_iff.1 hn).1; simpa using this
    have : n = 0 := by rw [List.getElem?_replicate] at hn; simp [hj] at hn; exact hn.symm
    subst this
    refine cell_laid w zs _ (0 + j) _ ?_
    simp [zs, hj])
theorem infoW : ∃ i, Tryz.prog.info? 24 = some i ∧ i.zero = some (.agg #[.string ⟨#[]⟩, .string ⟨#[]⟩, .bool false]) ∧ i.size = 3 ∧ i.bytes = 40 := by
  have h : (Tryz.prog.info? 24).map (fun i => (i.zero, i.size, i.bytes)) = some (some (.agg #[.string ⟨#[]⟩, .string ⟨#[]⟩, .bool false]), 3, 40) := by kernel_rfl
  obtain ⟨i, hi, h⟩ := Option.map_eq_some_iff.1 h
  simp only [Prod.mk.injEq] at h
  exact ⟨i, hi, h.1, h.2.1, h.2.2⟩
set_option maxHeartbeats 3200000 in
theorem law_rest (halive : ∀ w : World, Calls Tryz.prog 4 #[] w fun e w' => e = .returned (.bool true) ∧ Stands w w')
    (ao : Option Addr) (len cap : Nat) (ks vs : Nat → ByteArray) (ds : Nat → Bool) (k v : ByteArray) (d : Bool) (at_ : Nat) (h1 : ¬ (20 : Int) < len) (h2 : ¬ (300 : Int) < v.size) (h4 : at_ ≤ len) (W : World) (hr : Rows3 W ao len ks vs ds) (hnil : ao = none → cap = 0) (hcap : len ≤ cap) (_hmax : cap ≤ maxLen) :
    Calls Tryz.prog 3 #[.slice ao len cap, .agg #[.string k, .string v, .bool d], (.int .i64 (at_ : Int))] W fun e w' => e = .returned (.bool true) ∧ Stands W w' := by
  have h5 : at_ ≤ cap := Nat.le_trans h4 hcap
  have h4' : ¬ (len : Int) < (at_ : Int) := by omega
  have b0 := cell_laid W #[.string k, .string v, .bool d] 24 0 (.string k) rfl
  have b1 := cell_laid W #[.string k, .string v, .bool d] 24 1 (.string v) rfl
  have b2 := cell_laid W #[.string k, .string v, .bool d] 24 2 (.bool d) rfl
  have st := Lib.hid (stands_alloc W #[.string k, .string v, .bool d] 24)
  have hr := Lib.hid hr
  have hnil := Lib.hid hnil
  go_enter Tryz.func3, Tryz.ntmps3
  go_wp2_with fail
  refine (c_new st.out).mono ?_
  rintro e w1 ⟨η1, r1, rfl, hr1, s1, k1⟩
  have s1 := Lib.hid s1
  have hr1 := Lib.hid hr1
  have k1 := Lib.hid k1
  go_wp2_with fail
  refine (c_open s1.out hr1.out).mono ?_
  rintro e w2 ⟨η2, dd, rfl, s2, k2⟩
  have s2 := Lib.hid s2
  have k2 := Lib.hid k2
  go_wp2_with fail
  refine (c_write s2.out).mono ?_
  rintro e w3 ⟨η3, rfl, s3, k3⟩
  have s3 := Lib.hid s3
  have k3 := Lib.hid k3
  have kb : w3.heap[W.heap.size]? = (W.alloc (.cells #[.string k, .string v, .bool d] 24)).heap[W.heap.size]? ∧ ¬ Live η3 hp2 W.heap.size ∧ W.heap.size < w3.heap.size := by
    obtain ⟨a1, a2, a3⟩ := k1.out W.heap.size (by simp) (fun ⟨id, o, h, _⟩ => by simp [heap0, Heap.get, Tr.get_lf] at h)
    obtain ⟨c1, c2, c3⟩ := k2.out W.heap.size a3 a2
    obtain ⟨d1, d2, d3⟩ := k3.out W.heap.size c3 c2
    exact ⟨d1.trans (c1.trans a1), d2, d3⟩
  obtain ⟨e0, e1, e2⟩ := kb
  replace b0 := cell_block e0 b0
  replace b1 := cell_block e0 b1
  replace b2 := cell_block e0 b2
  have f0 : w3.frozen? ⟨W.heap.size, 0, none⟩ = false := by
    rw [World.frozen?_of_block (a := ⟨W.heap.size, 0, none⟩) e0]
    exact World.frozen?_alloc_new W _ _ 0
  have e0 := Lib.hid e0
  have e1 := Lib.hid e1
  have hmk := make301 w3
  have hcv := conv301 w3
  go_wp2_with fail
  generalize hw7 : (w3.setCell ⟨W.heap.size, 0, none⟩ (.string z301)).alloc (.cells zs 5) = w7
  have S7 : St Tryz.prog W η3 hp2 w7 := by
    rw [← hw7]
    refine s3.out.st.off rfl rfl (by simp) (fun b hb => ?_) (fun b hb => ?_)
    · have hlt := s3.out.st.live_lt hb
      rw [RowKit.Below.heap_alloc _ _ _ (by simpa using hlt)]
      exact RowKit.Below.heap_setCell _ _ _ _ (fun e => e1.out (by have e : b = W.heap.size := e; rw [← e]; exact hb))
    · have hlt : b < w3.heap.size := Nat.lt_of_lt_of_le hb s3.out.st.stands.size
      rw [RowKit.Below.heap_alloc _ _ _ (by simpa using hlt)]
      exact RowKit.Below.heap_setCell _ _ _ _ (by show b ≠ W.heap.size; omega)
  have hS := Lib.hid S7.stands
  have c0 : w7.cell? ⟨W.heap.size, 0, none⟩ = some (.string z301) := by
    rw [← hw7]
    exact stands_cell (stands_alloc _ _ _) (World.cell?_setCell_same _ _ _ b0)
  have c1 : w7.cell? ⟨W.heap.size, 1, none⟩ = some (.string v) := by
    rw [← hw7]
    exact stands_cell (stands_alloc _ _ _) ((World.cell?_setCell_other _ _ _ _ (by simp)).trans b1)
  have c2 : w7.cell? ⟨W.heap.size, 2, none⟩ = some (.bool d) := by
    rw [← hw7]
    exact stands_cell (stands_alloc _ _ _) ((World.cell?_setCell_other _ _ _ _ (by simp)).trans b2)
  have S7 := Lib.hid S7
  clear hw7 b0 b1 b2 f0 hmk hcv
  obtain ⟨i0, hi0, hz0, hs0, hy0⟩ := infoW
  have hi0 := Lib.hid hi0
  have hz0 := Lib.hid hz0
  have hs0 := Lib.hid hs0
  have hy0 := Lib.hid hy0
  have hn1 := Lib.hid (show 0 + at_ ≤ maxLen ∧ (0 + at_) * 40 ≤ 140737488355328 ∧ 0 + at_ + 1 ≤ maxLen ∧ (0 + at_ + 1) * 40 ≤ 140737488355328 ∧ 0 + at_ + 1 + (len - at_) ≤ maxLen ∧ (0 + at_ + 1 + (len - at_)) * 40 ≤ 140737488355328 by unfold maxLen; omega)
  have src1 := Lib.hid (fun (w' : World) (hg : Stands W w') => (hr.out.stands hg).src hnil.out hcap 0 at_ (by omega) (fun h => by have := hnil.out h; omega) cap ao (by simp) hnil.out)
  have src3 := Lib.hid (fun (w' : World) (hg : Stands W w') => (hr.out.stands hg).src hnil.out hcap at_ (len - at_) (by omega) (fun h => by have := hnil.out h; omega) (cap - at_) (if cap = at_ then ao else ao.map fun y => y.add (at_ * 3)) (by
    by_cases h0 : at_ = 0
    · subst h0
      cases ao <;> simp [Addr.add]
    · simp [h0]) (fun h => by have := hnil.out h; omega))
  go_region_law (first
    | (refine step_append_all _ rfl (.const (.slice none 0 0)) (.tmp 61) 22 rfl w7.heap.size 24 i0 _ 3 40 Tryz.underlying22 hi0.out hz0.out hs0.out hy0.out rfl (by decide) (.slice none 0 0) 0 [] rfl (World.ownsRow_nil _ _ _ _) (.slice ao at_ cap) at_ (items ks vs ds 0 at_) (by simp [Act.eval, Act.put]) (src1.out _ (by first | exact hS.out.trans (stands_drew _) | exact (hS.out.trans (stands_drew _)).trans (stands_alloc _ _ _))) (items_len _ _) (items_one _ _) hn1.out.1 hn1.out.2.1 (by simp) ?_
       intro v1 u1 o1 g1
       have gS := stands_of_grownBy g1
       have q1 : Stands w7 u1 := by first | exact (stands_drew _).trans gS | exact ((stands_drew _).trans (stands_alloc _ _ _)).trans gS
       have d0 := stands_cell q1 c0
       have d1 := stands_cell q1 c1
       have d2 := stands_cell q1 c2
       replace o1 := Lib.hid o1
       replace q1 := Lib.hid q1
       replace gS := Lib.hid gS
       clear g1)
    | (refine step_append_all _ rfl (.tmp 62) (.tmp 64) 22 rfl w7.heap.size 24 i0 _ 3 40 Tryz.underlying22 hi0.out hz0.out hs0.out hy0.out rfl (by decide) v1 (0 + at_) ([] ++ items ks vs ds 0 at_) (by simp [Act.eval]) (o1.out.alloc _) (.slice (some ⟨u1.heap.size, 0, none⟩) 1 1) 1 [.string z301, .string v, .bool d] (by simp [Act.eval]) (.inr ⟨_, _, rfl, fun j u hu => by rw [addr_add, Nat.zero_add]; exact cell_laid _ _ _ _ _ (by simpa using hu)⟩) rfl (by simp [Value.oneCell']) hn1.out.2.2.1 hn1.out.2.2.2.1 (Nat.le_trans q1.out.size (by simp)) ?_
       intro v2 u2 o2 g2
       have q2 : Stands w7 u2 := stands_of_owned (q1.out.trans (stands_alloc _ _ _)) (o1.out.alloc _) g2
       replace o2 := Lib.hid o2
       replace q2 := Lib.hid q2
       clear g2)
    | (refine step_append_all _ rfl (.tmp 62) (.tmp 64) 22 rfl w7.heap.size 24 i0 _ 3 40 Tryz.underlying22 hi0.out hz0.out hs0.out hy0.out rfl (by decide) v1 (0 + at_) ([] ++ items ks vs ds 0 at_) (by simp [Act.eval]) o1.out (.slice (some ⟨w7.heap.size, 0, none⟩) 1 1) 1 [.string z301, .string v, .bool d] (by simp [Act.eval]) (.inr ⟨_, _, rfl, fun j u hu => by rw [addr_add, Nat.zero_add]; exact stands_cell gS.out (cell_laid _ _ _ _ _ (by simpa using hu))⟩) rfl (by simp [Value.oneCell']) hn1.out.2.2.1 hn1.out.2.2.2.1 q1.out.size ?_
       intro v2 u2 o2 g2
       have q2 : Stands w7 u2 := stands_of_owned q1.out o1.out g2
       replace o2 := Lib.hid o2
       replace q2 := Lib.hid q2
       clear g2)
    | (refine step_append_all _ rfl (.tmp 65) (.tmp 68) 22 rfl w7.heap.size 24 i0 _ 3 40 Tryz.underlying22 hi0.out hz0.out hs0.out hy0.out rfl (by decide) v2 (0 + at_ + 1) ([] ++ items ks vs ds 0 at_ ++ [.string z301, .string v, .bool d]) (by simp [Act.eval]) o2.out (.slice (if cap = at_ then ao else ao.map fun y => y.add (at_ * 3)) (len - at_) (cap - at_)) (len - at_) (items ks vs ds at_ (len - at_)) (by simp [Act.eval]) (src3.out _ (hS.out.trans q2.out)) (items_len _ _) (items_one _ _) hn1.out.2.2.2.2.1 hn1.out.2.2.2.2.2 q2.out.size ?_
       intro v3 u3 o3 g3
       have q3 : Stands w7 u3 := stands_of_owned q2.out o2.out g3
       replace o3 := Lib.hid o3
       replace q3 := Lib.hid q3
       clear g3))
  all_goals
    have hn : 0 + at_ + 1 + (len - at_) = len + 1 := by omega
    have o4 := o3.out
    rw [hn] at o4
    obtain ⟨g, gc, rfl, hg1, hg2⟩ := o4.form (by omega)
    have hit : [] ++ items ks vs ds 0 at_ ++ [.string z301, .string v, .bool d] ++ items ks vs ds at_ (len - at_) = items (putIn ks at_ z301) (putIn vs at_ v) (putIn ds at_ d) 0 (len + 1) := by
      rw [List.nil_append]; exact items_put z301 v d at_ len h4
    rw [hit] at o4
    have R3 : ∀ j, j < len + 1 → u3.cell? ⟨g, j * 3, none⟩ = some (.string (putIn ks at_ z301 j)) ∧ u3.cell? ⟨g, j * 3 + 1, none⟩ = some (.string (putIn vs at_ v j)) ∧ u3.cell? ⟨g, j * 3 + 2, none⟩ = some (.bool (putIn ds at_ d j)) := fun j hj => by
      have h := items_at (ks := putIn ks at_ z301) (vs := putIn vs at_ v) (ds := putIn ds at_ d) 0 (len + 1) j hj
      rw [Nat.zero_add] at h
      exact ⟨(o4.cellAt (j * 3) (by omega)).trans h.1, (o4.cellAt (j * 3 + 1) (by omega)).trans h.2.1, (o4.cellAt (j * 3 + 2) (by omega)).trans h.2.2⟩
    have hbad : 300 < (putIn ks at_ z301 at_).size := by simp [putIn, z301_size]
    generalize putIn ks at_ z301 = ks' at R3 hbad
    generalize putIn vs at_ v = vs' at R3
    generalize putIn ds at_ d = ds' at R3
    have hgl : ¬ Live η3 hp2 g := fun hl => by have := S7.out.live_lt hl; omega
    have S8 := Lib.hid (S7.out.grown q3.out)
    have R3 := Lib.hid R3
    have hgl := Lib.hid hgl
    have hbad := Lib.hid hbad
    clear hit o4 o3 o2 o1 hn1
    generalize (if cap = at_ then ao else Option.map (fun x => x.add (at_ * 3)) ao) = x68
    go_wp2
    go_loopw [6, 11] (fun _ i wr => ∃ k : Nat, k ≤ len + 1 ∧ i = .int .i64 k ∧ wr = u3) (fun _ i _ => len + 1 - (intOf i).toNat)
    case atStart => exact ⟨0, Nat.zero_le _, rfl, rfl⟩
    case round =>
      obtain ⟨k', hk', rfl, rfl⟩ := hrel
      by_cases hlt : k' < len + 1
      · obtain ⟨m0, m1, m2⟩ := R3.out k' hlt
        go_wp2_with (go_at_call 4; refine (halive _).mono ?_; rintro e w' ⟨rfl, hst⟩; have hst := Lib.hid hst)
        all_goals first
          | (go_ret; exact ⟨rfl, S8.out.stands.trans hst.out⟩)
          | (go_roundw
             case rel => exact ⟨k' + 1, by omega, by go_num, trivial⟩
             case measure => simp only [intOf]; omega)
      · go_wp2_with fail
        refine (c_seq ⟨S8.out, s3.out.db⟩).mono ?_
        rintro e w4 ⟨η4, rfl, s4, k4⟩
        obtain ⟨a1, a2, a3⟩ := k4 g hg2 hgl.out
        obtain ⟨⟨fs, y0⟩, y7, y9⟩ := c_cells s4
        have hwb := Lib.hid (write_bad dd fs true g 0 (len + 1) gc ks' vs' ds' at_ (by omega) (by omega) hbad.out w4 (fun j hj => by rw [Nat.zero_add]; exact cell_block a1 (R3.out j hj).1) (fun j hj => by rw [Nat.zero_add]; exact cell_block a1 (R3.out j hj).2.1) (fun j hj => by rw [Nat.zero_add]; exact cell_block a1 (R3.out j hj).2.2) y0 y7 y9)
        have s4 := Lib.hid s4
        clear k4 a1 a2 a3 y0 y7 y9
        go_wp2_with fail
        refine hwb.out.mono ?_
        rintro e w5 ⟨rfl, st5⟩
        have s5 : Hid (At W η4 hp3 w5 dd) := Lib.hid ⟨s4.out.st.grown st5, s4.out.db⟩
        clear hwb st5
        go_wp2_with fail
        refine (c_nil s5.out).mono ?_
        rintro e w6 ⟨η6, rfl, s6, _⟩
        have s6 := Lib.hid s6
        go_wp2_with fail
        refine (c_get s6.out).mono ?_
        rintro e w7' ⟨η7, rfl, s7, _⟩
        have s7 := Lib.hid s7
        go_wp2_with fail
        refine (halive _).mono ?_
        rintro e w8 ⟨rfl, st8⟩
        have s8 : Hid (At W η7 hp5 w8 dd) := Lib.hid ⟨s7.out.st.grown st8, s7.out.db⟩
        clear st8
        go_wp2_with fail
        refine (c_seq2 s8.out).mono ?_
        rintro e w9 ⟨η9, rfl, s9, _⟩
        have s9 := Lib.hid s9
        go_wp2_with fail
        refine (c_up s9.out).mono ?_
        rintro e w10 ⟨η10, rfl, s10, _⟩
        have s10 := Lib.hid s10
        go_wp2_with fail
        refine (c_last s10.out).mono ?_
        rintro e w11 ⟨rfl, st11⟩
        have st11 := Lib.hid st11
        go_wp2
        go_ret
        exact ⟨rfl, st11.out⟩
end Go.Proofs.YtanepmneapepkaaGreatDoor.Wk
