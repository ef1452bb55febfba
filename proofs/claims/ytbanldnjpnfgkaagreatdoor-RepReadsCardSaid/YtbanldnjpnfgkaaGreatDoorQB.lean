/-
  Part of the proof of a statement of this seat: walks of its functions and the closed run; no condition but those written in each theorem.
-/
import Derived.Test.YtbanldnjpnfgkaaGreatDoorProg
import Derived.WalkKit
import Derived.Lib.Hide
import Derived.Lib.Bytealg
import Derived.Lib.BytesEntry
import Derived.KernelRfl
import Derived.Test.YtbanldnjpnfgkaaGreatDoorV7
import Derived.Test.YtbanldnjpnfgkaaGreatDoorPA
import Derived.Test.YtbanldnjpnfgkaaGreatDoorPV
import Derived.Test.YtbanldnjpnfgkaaGreatDoorQT
import Derived.Deep.RegionWith
/- bytes.Compare of two rows. -/
namespace Go.Proofs.YtbanldnjpnfgkaaGreatDoor.Wk
set_option maxRecDepth 100000
open Go.RowKit Go.VmK Go.NumPure Go.Shelf
theorem st_refl (A : World) : Stands A A := ⟨rfl, rfl, Nat.le_refl _, fun _ _ => rfl⟩
theorem cell_st {W W' : World} {b i : Nat} {v : Value} (k : Stands W W') (h : W.cell? ⟨b, i, none⟩ = some v) : W'.cell? ⟨b, i, none⟩ = some v := by
  rw [← h]
  simp only [World.cell?, k.blocks b (World.block_lt_of_cell? _ _ h)]
theorem bytesOf_row (b o c : Nat) (x : List Nat) (w : World) (h : ∀ (j n : Nat), x[j]? = some n → w.cell? ⟨b, o + j, none⟩ = some (.int .u8 (Int.ofNat n))) :
    (Extern.Bytes.bytesOf (.slice (some ⟨b, o, none⟩) x.length c)).run Tryz.prog w = .ok (txt (x.map UInt8.ofNat)) w := by
  have hl := Lib.run_loadBytesX (P := Tryz.prog) w (x.map Int.ofNat) ⟨b, o, none⟩ .empty (fun j v hv => by
    have hadd : (⟨b, o, none⟩ : Addr).add j = ⟨b, o + j, none⟩ := by unfold Addr.add; split <;> simp_all
    rw [hadd]
    simp only [List.getElem?_map, Option.map_eq_some_iff] at hv
    obtain ⟨n, hn, rfl⟩ := hv
    exact h j n hn)
  rw [List.length_map] at hl
  simp only [Extern.Bytes.bytesOf]
  rw [hl]
  congr 1
  apply ByteArray.ext
  simp [txt, Lib.bytesOf, Function.comp_def]
/-- bytes.Compare, as the machine takes it -/
theorem conBytes {O : Env → Heap → World → Prop} : ConOK Tryz.prog O 311 (.fn cmpRows) := by
  refine cmpRows_ok fun w b1 o1 c1 b2 o2 c2 x y hb1 hb2 h1 h2 => ?_
  have hr : (Extern.BytealgCompare.compare #[.slice (some ⟨b1, o1, none⟩) x.length c1, .slice (some ⟨b2, o2, none⟩) y.length c2]).run Tryz.prog w = .ok (.int .i64 (Lib.compareBytes (x.map UInt8.ofNat) (y.map UInt8.ofNat))) w := by
    change Sem.run Tryz.prog (do pure (goInt (Extern.BytealgCompare.cmp (← Extern.Bytes.bytesOf (.slice (some ⟨b1, o1, none⟩) x.length c1)) (← Extern.Bytes.bytesOf (.slice (some ⟨b2, o2, none⟩) y.length c2))))) w = _
    simp only [Sem.run_bind, bytesOf_row b1 o1 c1 x w h1, bytesOf_row b2 o2 c2 y w h2, Sem.run_pure, Result.andThen]
    rw [Lib.cmp_eq]
    rfl
  have hc : (callFunc 402 #[.slice (some ⟨b1, o1, none⟩) x.length c1, .slice (some ⟨b2, o2, none⟩) y.length c2]).run Tryz.prog w = .ok (.value (.int .i64 (Lib.compareBytes (x.map UInt8.ofNat) (y.map UInt8.ofNat)))) w := by
    rw [run_callFunc_extern Tryz.func402 (by kernel_rfl) (by kernel_rfl) (by kernel_rfl) (show Extern.find _ = some Extern.BytealgCompare.compare by kernel_rfl), hr]
    simp [Result.andThen]
  go_enter Tryz.func311, Tryz.ntmps311
  go_wp2
  go_ret
  exact ⟨rfl, st_refl _⟩
end Go.Proofs.YtbanldnjpnfgkaaGreatDoor.Wk
namespace Go.Proofs.YtbanldnjpnfgkaaGreatDoor.Wk
set_option maxRecDepth 100000
open Go.RowKit Go.VmK Go.NumPure
set_option maxHeartbeats 3200000 in
theorem var2_any (a b : Nat) (hva : a < 18446744073709551616) (hvb : b < 18446744073709551616) (bk off cap : Nat) (w : World) (hbk : bk < w.heap.size) (hc : w.cell? ⟨bk, off, none⟩ = some (.int .u64 a)) (hd : w.cell? ⟨bk, off + 1, none⟩ = some (.int .u64 b)) :
    Calls Tryz.prog 223 #[.slice (some ⟨bk, off, none⟩) 2 cap] w fun e w' => e = .returned (.string (bytesOf (vr a ++ vr b))) ∧ Below w.heap.size w w' := by
  obtain ⟨i0, hi, hz0, hz1, hz2⟩ := info_parts info8
  go_enter Tryz.func223, Tryz.ntmps223
  go_wp2
  refine wp_loop_rounds 3 ?_
  rw [rounds_succ]
  go_wp2
  go_loopw [3, 5] (fun bb v wr => ∃ (pre : List Nat) (n : Nat), v = .int .u64 n ∧ pre ++ vr n = ([] : List Nat) ++ vr a ∧ n < 18446744073709551616 ∧ wr.ownsRow w.heap.size 5 1 bb pre.length (byteVals pre) ∧ Below w.heap.size w wr) (fun _ v _ => (intOf v).toNat)
  case atStart => exact ⟨[], a, rfl, rfl, hva, World.ownsRow_nil _ _ _ _, Below.refl _ _⟩
  case round =>
    obtain ⟨preA, nA, rfl, hpre, hnA, hown, hbl⟩ := hrel
    have hplA : preA.length ≤ 22 := by have := congrArg List.length hpre; have h1 := vr_short hva; have h2 := vr_short hvb; simp at *; omega
    have hOA := Lib.hid hpre
    clear hpre
    by_cases h128 : 128 ≤ nA
    · have ho := Lib.hid (or128 nA)
      have hrec := Lib.hid (vr_high h128)
      go_wp2_with (at_builtin; refine wpList_append_own _ rfl _ _ 85 rfl w.heap.size 5 i0 (.int .u8 0) 1 1 Tryz.underlying85 hi hz0 hz1 hz2 rfl (by decide) _ _ _ rfl (hown.alloc _) ⟨wr.heap.size, 0, none⟩ 1 1 [.int .u8 (bits .or .u8 ((nA : Int) % 256) 128)] rfl rfl ?c1 ?c2 ?c3 ?c4 ?c5 ?_)
      case c1 =>
        intro j u hj
        match j, hj with
        | 0, hj => simp at hj; subst hj; simp [Addr.add]
      case c2 => intro u hu; simp at hu; subst hu; rfl
      case c3 => unfold maxLen; omega
      case c4 => omega
      case c5 => have := hbl.size; simp; omega
      intro v' w1 hown' hgrow _
      have hb1 : Below w.heap.size w w1 := (hbl.alloc hbl.size _).grown hgrow (by have := hbl.size; simp; omega) (fun j hj => by have := (hown.lt j hj).1; omega)
      clear hown hgrow hbl
      go_wp2
      go_roundw
      case rel =>
        refine ⟨preA ++ [nA % 128 + 128], nA / 128, by go_num, ?_, by omega, ?_, hb1⟩
        · rw [← hOA.out, hrec.out]; simp
        · rw [ho.out] at hown'
          simpa [byteVals] using hown'
      case measure => simp only [intOf]; omega
    · go_wp2_with (at_builtin; refine wpList_append_own _ rfl _ _ 85 rfl w.heap.size 5 i0 (.int .u8 0) 1 1 Tryz.underlying85 hi hz0 hz1 hz2 rfl (by decide) _ _ _ rfl (hown.alloc _) ⟨wr.heap.size, 0, none⟩ 1 1 [.int .u8 (nA : Int)] rfl rfl ?d1 ?d2 ?d3 ?d4 ?d5 ?_)
      case d1 =>
        intro j u hj
        match j, hj with
        | 0, hj => simp at hj; subst hj; simp [Addr.add]
      case d2 => intro u hu; simp at hu; subst hu; rfl
      case d3 => unfold maxLen; omega
      case d4 => omega
      case d5 => have := hbl.size; simp; omega
      intro vA wA hown' hgrow _
      have hbA : Below w.heap.size w wA := (hbl.alloc hbl.size _).grown hgrow (by have := hbl.size; simp; omega) (fun j hj => by have := (hown.lt j hj).1; omega)
      have hrecA := Lib.hid (vr_low (Nat.lt_of_not_le h128))
      clear hown hgrow hbl
      have hOA' : Hid (preA ++ [nA] = vr a) := Lib.hid (by rw [← hrecA.out]; exact hOA.out)
      have hown2 := Lib.hid hown'
      have hla : preA.length + 1 = (vr a).length := by have := congrArg List.length hOA'.out; simpa using this
      have hd2 : wA.cell? ⟨bk, off + 1, none⟩ = some (.int .u64 b) := (hbA.cell hbk).trans hd
      clear hown'
      go_wp2
      rw [rounds_succ]
      go_wp2
      go_loopw [3, 5] (fun bb v wr => ∃ (pre : List Nat) (n : Nat), v = .int .u64 n ∧ pre ++ vr n = (preA ++ [nA]) ++ vr b ∧ n < 18446744073709551616 ∧ wr.ownsRow w.heap.size 5 1 bb pre.length (byteVals pre) ∧ Below w.heap.size w wr) (fun _ v _ => (intOf v).toNat)
      case atStart => exact ⟨preA ++ [nA], b, rfl, rfl, hvb, by simpa [byteVals] using hown2.out, hbA⟩
      case round =>
        obtain ⟨preB, nB, rfl, hpre, hnB, hown, hbl⟩ := hrel
        have hplB : preB.length ≤ 22 := by have := congrArg List.length hpre; have h1 := vr_short hva; have h2 := vr_short hvb; simp at *; omega
        have hOB := Lib.hid hpre
        clear hpre
        by_cases h128 : 128 ≤ nB
        · have ho := Lib.hid (or128 nB)
          have hrec := Lib.hid (vr_high h128)
          go_wp2_with (at_builtin; refine wpList_append_own _ rfl _ _ 85 rfl w.heap.size 5 i0 (.int .u8 0) 1 1 Tryz.underlying85 hi hz0 hz1 hz2 rfl (by decide) _ _ _ rfl (hown.alloc _) ⟨wr.heap.size, 0, none⟩ 1 1 [.int .u8 (bits .or .u8 ((nB : Int) % 256) 128)] rfl rfl ?c1 ?c2 ?c3 ?c4 ?c5 ?_)
          case c1 =>
            intro j u hj
            match j, hj with
            | 0, hj => simp at hj; subst hj; simp [Addr.add]
          case c2 => intro u hu; simp at hu; subst hu; rfl
          case c3 => unfold maxLen; omega
          case c4 => omega
          case c5 => have := hbl.size; simp; omega
          intro v' w1 hown' hgrow _
          have hb1 : Below w.heap.size w w1 := (hbl.alloc hbl.size _).grown hgrow (by have := hbl.size; simp; omega) (fun j hj => by have := (hown.lt j hj).1; omega)
          clear hown hgrow hbl
          go_wp2
          go_roundw
          case rel =>
            refine ⟨preB ++ [nB % 128 + 128], nB / 128, by go_num, ?_, by omega, ?_, hb1⟩
            · rw [← hOB.out, hrec.out]; simp
            · rw [ho.out] at hown'
              simpa [byteVals] using hown'
          case measure => simp only [intOf]; omega
        · go_wp2_with (at_builtin; refine wpList_append_own _ rfl _ _ 85 rfl w.heap.size 5 i0 (.int .u8 0) 1 1 Tryz.underlying85 hi hz0 hz1 hz2 rfl (by decide) _ _ _ rfl (hown.alloc _) ⟨wr.heap.size, 0, none⟩ 1 1 [.int .u8 (nB : Int)] rfl rfl ?d1 ?d2 ?d3 ?d4 ?d5 ?_)
          case d1 =>
            intro j u hj
            match j, hj with
            | 0, hj => simp at hj; subst hj; simp [Addr.add]
          case d2 => intro u hu; simp at hu; subst hu; rfl
          case d3 => unfold maxLen; omega
          case d4 => omega
          case d5 => have := hbl.size; simp; omega
          intro vB wB hown' hgrow _
          have hbB : Below w.heap.size w wB := (hbl.alloc hbl.size _).grown hgrow (by have := hbl.size; simp; omega) (fun j hj => by have := (hown.lt j hj).1; omega)
          have hrecB := Lib.hid (vr_low (Nat.lt_of_not_le h128))
          clear hown hgrow hbl
          have hcv := conv_own (P := Tryz.prog) (w := wB) (l := preB ++ [nB]) Tryz.underlying85 Tryz.underlying5 Tryz.underlying9 (by simpa [byteVals] using hown') (by simp)
          have hcv := Lib.hid hcv
          go_wp2
          rw [rounds_succ]
          replace hcv := hcv.out
          go_wp2
          go_ret
          have e : preB ++ [nB] = vr a ++ vr b := by rw [← hOA'.out, ← hOB.out, hrecB.out]
          exact ⟨congrArg (fun z => Ending.returned (.string (bytesOf z))) e, hbB⟩
end Go.Proofs.YtbanldnjpnfgkaaGreatDoor.Wk
namespace Go.Proofs.YtbanldnjpnfgkaaGreatDoor.Wk
set_option maxRecDepth 100000
open Go.RowKit Go.VmK Go.NumPure Go.Shelf
/-- the writes of a batch, laid -/
def bb (ws : List (ByteArray × ByteArray)) : List UInt8 := ws.flatMap fun p => 0 :: tx [p.1, p.2]
/-- a batch, laid -/
def bt (first : Nat) (ws : List (ByteArray × ByteArray)) : List UInt8 := (vb first ++ vb ws.length) ++ bb ws
theorem vb_short {n : Nat} (h : n < 18446744073709551616) : (vb n).length ≤ 11 := by have := vr_short h; simpa [vb] using this
theorem bb_one (k v : ByteArray) (hk : k.size ≤ 300) (hv : v.size ≤ 1000) : (tx [k, v]).length ≤ 1330 := by
  have h1 := vb_short (n := k.size) (by omega)
  have h2 := vb_short (n := v.size) (by omega)
  have e1 : k.data.toList.length = k.size := rfl
  have e2 : v.data.toList.length = v.size := rfl
  simp [tx]
  omega
theorem bb_len : ∀ (ws : List (ByteArray × ByteArray)), (∀ p ∈ ws, p.1.size ≤ 300 ∧ p.2.size ≤ 1000) → (bb ws).length ≤ 1331 * ws.length
  | [], _ => by simp [bb]
  | p :: l, h => by
    have := bb_len l fun q hq => h q (List.mem_cons_of_mem _ hq)
    have h1 := bb_one p.1 p.2 (h p (List.mem_cons_self ..)).1 (h p (List.mem_cons_self ..)).2
    simp only [bb, List.flatMap_cons, List.length_append, List.length_cons] at this ⊢
    omega
theorem bb_snoc (ws : List (ByteArray × ByteArray)) (k : Nat) (p : ByteArray × ByteArray) (h : ws[k]? = some p) : bb (ws.take (k + 1)) = bb (ws.take k) ++ 0 :: tx [p.1, p.2] := by
  obtain ⟨hk, rfl⟩ := List.getElem?_eq_some_iff.1 h
  rw [List.take_succ_eq_append_getElem hk]
  simp only [bb, List.flatMap_append, List.flatMap_cons, List.flatMap_nil, List.append_nil]
theorem cell_alloc {w : World} {o : Obj} {b off : Nat} {v : Value} (h : w.cell? ⟨b, off, none⟩ = some v) : (w.alloc o).cell? ⟨b, off, none⟩ = some v := by
  have hb := World.block_lt_of_cell? _ _ h
  rw [← h]
  simp only [World.cell?, RowKit.Below.heap_alloc w o b hb]
set_option maxHeartbeats 3200000 in
theorem batch_any (first : Nat) (ws : List (ByteArray × ByteArray)) (bk off cap : Nat) (w : World) (hf : first < 18446744073709551616) (hbk : bk < w.heap.size) (hl0 : 0 < ws.length) (hln : ws.length ≤ 100) (hx : ∀ p ∈ ws, p.1.size ≤ 300 ∧ p.2.size ≤ 1000)
    (hc : ∀ (j : Nat) (p : ByteArray × ByteArray), ws[j]? = some p → w.cell? ⟨bk, off + j * 3, none⟩ = some (.string p.1) ∧ w.cell? ⟨bk, off + j * 3 + 1, none⟩ = some (.string p.2) ∧ w.cell? ⟨bk, off + j * 3 + 2, none⟩ = some (.bool false)) :
    Calls Tryz.prog 225 #[.agg #[.int .u64 first, .slice (some ⟨bk, off, none⟩) ws.length cap]] w fun e w' => e = .returned (.tuple #[.string (txt (bt first ws)), .int .i64 0]) ∧ Below w.heap.size w w' := by
  have hc := Lib.hid hc
  have hbb := Lib.hid fun k => bb_len (ws.take k) fun p hp => hx p (List.mem_of_mem_take hp)
  have hx := Lib.hid hx
  have h0 : ((ws.length : Int) == 0) = false := beq_eq_false_iff_ne.2 (by omega)
  go_enter Tryz.func225, Tryz.ntmps225
  go_wp2
  go_loopw [5, 16] (fun _ i wr => ∃ k : Nat, k ≤ ws.length ∧ i = .int .i64 k ∧ Below w.heap.size w wr ∧ wr.cell? ⟨w.heap.size, 0, none⟩ = some (.int .u64 first) ∧ wr.cell? ⟨w.heap.size, 1, none⟩ = some (.slice (some ⟨bk, off, none⟩) ws.length cap)) (fun _ i _ => ws.length - (intOf i).toNat)
  case atStart => exact ⟨0, Nat.zero_le _, rfl, (RowKit.Below.refl _ _).alloc (Nat.le_refl _) _, cell_new _ _ _ _ _ rfl, cell_new _ _ _ _ _ rfl⟩
  case round =>
    obtain ⟨k, hk, rfl, hbl, hcell0, hcell⟩ := hrel
    have hws : w.heap.size < wr.heap.size := World.block_lt_of_cell? _ _ hcell
    by_cases hlt : k < ws.length
    · obtain ⟨p, hp⟩ : ∃ p, ws[k]? = some p := ⟨_, List.getElem?_eq_getElem hlt⟩
      obtain ⟨hpx1, hpx2⟩ := hx.out p (List.mem_of_getElem? hp)
      obtain ⟨hc1, hc2, hc3⟩ := hc.out k p hp
      replace hc1 := (hbl.cell (by exact hbk)).trans hc1
      replace hc2 := (hbl.cell (by exact hbk)).trans hc2
      replace hc3 := (hbl.cell (by exact hbk)).trans hc3
      go_wp2_with fail
      refine (right_any p.1 p.2 _ hpx1 (by omega)).mono ?_
      rintro e w1 ⟨rfl, hw1⟩
      have hbl1 : Below w.heap.size w w1 := by rw [hw1]; exact (hbl.alloc (by omega) _).alloc (by simp; omega) _
      have hcell0' : w1.cell? ⟨w.heap.size, 0, none⟩ = some (.int .u64 first) := by rw [hw1]; exact cell_alloc (cell_alloc hcell0)
      have hcell' : w1.cell? ⟨w.heap.size, 1, none⟩ = some (.slice (some ⟨bk, off, none⟩) ws.length cap) := by rw [hw1]; exact cell_alloc (cell_alloc hcell)
      clear hw1
      go_wp2
      go_roundw
      case rel => exact ⟨k + 1, by omega, by go_num, hbl1, hcell0', hcell'⟩
      case measure => simp only [intOf]; omega
    · rename World => wo
      have hB0 : Lib.IsBuilder 335 5 wo.heap.size wo.heap.size (Lib.byteCells []) (wo.alloc (.cells #[.pointer none, .slice none 0 0] 335)) := by
        refine .inl ⟨Nat.le_refl _, .slice none 0 0, ?_, World.ownsRow_nil _ _ _ _, by simp [Value.ownBlock]⟩
        simp [World.alloc, -World.alloc_eq]
      have hB1 := Lib.hid (builder_stays hB0 (w' := (wo.alloc (.cells #[.pointer none, .slice none 0 0] 335)).alloc (.cells #[.int .u64 first, .int .u64 ws.length] 45)) (fun j hj => RowKit.Below.heap_alloc _ _ _ hj))
      clear hB0
      have hbl1 : Below w.heap.size w ((wo.alloc (.cells #[.pointer none, .slice none 0 0] 335)).alloc (.cells #[.int .u64 first, .int .u64 ws.length] 45)) := (hbl.alloc (by omega) _).alloc (by simp; omega) _
      have hcell0' := cell_alloc (o := .cells #[.int .u64 first, .int .u64 ws.length] 45) (cell_alloc (o := .cells #[.pointer none, .slice none 0 0] 335) hcell0)
      have hcell' := cell_alloc (o := .cells #[.int .u64 first, .int .u64 ws.length] 45) (cell_alloc (o := .cells #[.pointer none, .slice none 0 0] 335) hcell)
      go_wp2_with fail
      refine (var2_any first ws.length hf (by omega) (wo.heap.size + 1) 0 2 _ (by simp) ?_ ?_).mono ?_
      · have := cell_new (wo.alloc (.cells #[.pointer none, .slice none 0 0] 335)) #[.int .u64 first, .int .u64 ws.length] 45 0 _ rfl
        first | (simp; done) | simpa using this
      · have := cell_new (wo.alloc (.cells #[.pointer none, .slice none 0 0] 335)) #[.int .u64 first, .int .u64 ws.length] 45 1 _ rfl
        first | (simp; done) | simpa using this
      rintro e w2 ⟨rfl, hv⟩
      rw [show bytesOf (vr first ++ vr ws.length) = txt (vb first ++ vb ws.length) by simp [bytesOf, vb, txt]]
      have hB2 := Lib.hid (builder_stays hB1.out (w' := w2) hv.block)
      have hbl2 : Below w.heap.size w w2 := hbl1.trans (hv.mono (by simp; omega))
      have hsz2 : wo.heap.size + 2 ≤ w2.heap.size := by have := hv.size; simpa using this
      replace hcell0' := (hv.cell (by simp; omega)).trans hcell0'
      replace hcell' := (hv.cell (by simp; omega)).trans hcell'
      have hh1 := vb_short hf
      have hh2 := vb_short (n := ws.length) (by omega)
      clear hB1 hbl1
      go_wp2_with fail
      refine (builder_write wo.heap.size wo.heap.size _ (txt (vb first ++ vb ws.length)) w2 hB2.out (by rw [byteCells_len, txt_size, List.length_append, List.length_nil]; omega) (by omega)).mono ?_
      rintro e w3 ⟨rfl, hB3, hbl3⟩
      have hhd : (vb first ++ vb ws.length).length ≤ 22 := by rw [List.length_append]; omega
      rw [strCells_txt, ← byteCells_append, List.nil_append] at hB3
      replace hB3 := Lib.hid hB3
      replace hcell' := (hbl3.cell hws).trans hcell'
      have hblr : Below wo.heap.size wo w3 := ((((RowKit.Below.refl _ _).alloc (Nat.le_refl _) _).alloc (by simp) _).trans (hv.mono (by simp; omega))).trans hbl3
      have hsz3 : wo.heap.size < w3.heap.size := by have := hbl3.size; omega
      clear hB2 hbl2 hbl3 hcell0' hcell0 hv
      go_wp2
      go_loopw [8, 36] (fun _ i wx => ∃ m : Nat, m ≤ ws.length ∧ i = .int .i64 m ∧ Lib.IsBuilder 335 5 wo.heap.size wo.heap.size (Lib.byteCells ((vb first ++ vb ws.length) ++ bb (ws.take m))) wx ∧ Below wo.heap.size wo wx ∧ wo.heap.size < wx.heap.size) (fun _ i _ => ws.length - (intOf i).toNat)
      case atStart => exact ⟨0, Nat.zero_le _, rfl, by simpa [bb] using hB3.out, hblr, hsz3⟩
      case round =>
        obtain ⟨m, hm, rfl, hB, hbx, hwx⟩ := hrel
        have hlen := hbb.out m
        have hlen2 : (bb (ws.take m)).length ≤ 133100 := by have : (ws.take m).length ≤ m := List.length_take_le _ _; omega
        by_cases hlt : m < ws.length
        · obtain ⟨p, hp⟩ : ∃ p, ws[m]? = some p := ⟨_, List.getElem?_eq_getElem hlt⟩
          obtain ⟨hpx1, hpx2⟩ := hx.out p (List.mem_of_getElem? hp)
          have hbw := (hbl.trans (hbx.mono (by omega)))
          obtain ⟨hc1, hc2, hc3⟩ := hc.out m p hp
          replace hc1 := (hbw.cell (by exact hbk)).trans hc1
          replace hc2 := (hbw.cell (by exact hbk)).trans hc2
          replace hc3 := (hbw.cell (by exact hbk)).trans hc3
          have hbo := Lib.hid (bb_one p.1 p.2 hpx1 hpx2)
          have hsn := Lib.hid (bb_snoc ws m p hp)
          have hB1 := Lib.hid (builder_stays hB (w' := wr.alloc (.cells #[.string p.1, .string p.2, .bool false] 332)) (fun j hj => RowKit.Below.heap_alloc _ _ _ hj))
          clear hB
          have hBd := Lib.hid (builder_stays hB1.out (w' := ((wr.alloc (.cells #[.string p.1, .string p.2, .bool false] 332)).drew).alloc (.cells #[.string p.1, .string p.2] 9)) (fun j hj => RowKit.Below.heap_alloc _ _ _ hj))
          clear hB1
          have hbd : Below wo.heap.size wo (((wr.alloc (.cells #[.string p.1, .string p.2, .bool false] 332)).drew).alloc (.cells #[.string p.1, .string p.2] 9)) := ((hbx.alloc (by omega) _).drew).alloc (by simp; omega) _
          have htl : (tx [p.1, p.2]).length ≤ 1000000000 := by have := hbo.out; omega
          have hxs : ∀ s ∈ [p.1, p.2], s.size ≤ 1000000000 := by intro s hs; simp at hs; rcases hs with rfl | rfl <;> omega
          have hcs : ∀ (j : Nat) (s : ByteArray), [p.1, p.2][j]? = some s → (((wr.alloc (.cells #[.string p.1, .string p.2, .bool false] 332)).drew).alloc (.cells #[.string p.1, .string p.2] 9)).cell? ⟨wr.heap.size + 1, 0 + j, none⟩ = some (.string s) := by
            intro j s hj
            have := cell_new ((wr.alloc (.cells #[.string p.1, .string p.2, .bool false] 332)).drew) #[.string p.1, .string p.2] 9 (0 + j) (.string s) (by match j, hj with
              | 0, hj => simp at hj; subst hj; rfl
              | 1, hj => simp at hj; subst hj; rfl)
            simpa using this
          replace htl := Lib.hid htl
          replace hxs := Lib.hid hxs
          replace hcs := Lib.hid hcs
          replace hbd := Lib.hid hbd
          have hz0 : (⟨#[0]⟩ : ByteArray).size = 1 := rfl
          have hz1 : (txt (tx [p.1, p.2])).size ≤ 1330 := by rw [txt_size]; exact hbo.out
          have hz2 : (⟨#[0]⟩ ++ txt (tx [p.1, p.2]) : ByteArray).size ≤ 1331 := by rw [ByteArray.size_append]; omega
          go_wp2_with fail
          go_region_with (first
            | (go_at_call 247; refine (bool_any _).mono ?_; rintro e w4 ⟨rfl, rfl⟩)
            | (go_at_call 249; refine (text_any [p.1, p.2] (wr.heap.size + 1) 0 2 _ (by simp) (by simp) htl.out hxs.out hcs.out).mono ?_; rintro e w5 ⟨rfl, hv5⟩; have hB5 := Lib.hid (builder_stays hBd.out (w' := w5) hv5.block); have hb5 := Lib.hid (hbd.out.trans (hv5.mono (by simp; omega))))
            | (go_at_call 222; refine (builder_write wo.heap.size wo.heap.size _ _ w5 hB5.out (by rw [byteCells_len, List.length_append]; omega) (by have := hb5.out.size; omega)).mono ?_; rintro e w6 ⟨rfl, hB6, hb6⟩))
          all_goals
            have e6 : (⟨#[0]⟩ ++ txt (tx [p.1, p.2]) : ByteArray) = txt (0 :: tx [p.1, p.2]) := txt_append [0] _
            rw [e6, strCells_txt, ← byteCells_append, List.append_assoc, ← hsn.out] at hB6
            replace hB6 := Lib.hid hB6
            have hb7 := hb5.out.trans hb6
            have hly : (bb (ws.take (m + 1))).length ≤ 133200 := by
              have := hbb.out (m + 1)
              have h2 : (ws.take (m + 1)).length ≤ m + 1 := List.length_take_le _ _
              omega
            have hlm : ((vb first ++ vb ws.length) ++ bb (ws.take (m + 1))).length ≤ 140000 := by
              have := hbb.out (m + 1)
              have h2 : (ws.take (m + 1)).length ≤ m + 1 := List.length_take_le _ _
              rw [List.length_append]; omega
            have hs7 : wo.heap.size < w6.heap.size := by have := hb6.size; have := hv5.size; simp at this; omega
            clear e6 hb6 hv5
            go_wp2_with fail
            refine (builder_len wo.heap.size wo.heap.size _ w6 hB6.out).mono ?_
            rintro e w7 ⟨rfl, rfl⟩
            go_wp2
            exact ⟨⟨m + 1, by omega, by go_num, hB6.out, hb7, hs7⟩, by simp only [intOf]; omega⟩
        · have hme : m = ws.length := by omega
          have htk : ws.take m = ws := by rw [hme]; exact List.take_length
          have hB' := Lib.hid hB
          clear hB
          go_wp2_with fail
          refine (builder_string wo.heap.size wo.heap.size ((vb first ++ vb ws.length) ++ bb (ws.take m)) wr hB'.out (by omega)).mono ?_
          rintro e w8 ⟨rfl, hv8⟩
          rw [htk]
          clear htk hme
          go_wp2
          go_ret2
          refine ⟨?_, hbl.trans ((hbx.trans hv8).mono (by omega))⟩
          show Ending.returned (.tuple #[.string (txt _), .int .i64 0]) = _
          rw [bt, List.append_assoc]
end Go.Proofs.YtbanldnjpnfgkaaGreatDoor.Wk
