/-
  Part of the proof of a statement of this seat: walks of its functions and the closed run; no condition but those written in each theorem.
-/
import Derived.Test.YtjjhphjbmllhhaaGreatDoorPSum
import Derived.Laws.StructEq
import Derived.ChangeKeysEq
import Derived.Lib.ConvBytes
import Derived.Laws.AppendOwn
import Derived.Sort.Row
namespace Go.Proofs.YtjjhphjbmllhhaaGreatDoor.Wk
set_option maxRecDepth 100000
open Go.RowKit Go.VmK Go.NumPure
theorem fieldsOf_cur : Tryz.prog.underlying 23 = some (.struct (Tryz.prog.fieldsOf 23)) := by kernel_rfl
theorem fields_cur : (Tryz.prog.fieldsOf 23).toList = [⟨"Name", 9, 0, false, "", "", 0⟩, ⟨"Lo", 9, 1, false, "", "", 16⟩, ⟨"Hi", 9, 2, false, "", "", 32⟩, ⟨"Next", 9, 3, false, "", "", 48⟩, ⟨"Most", 3, 4, false, "", "", 64⟩, ⟨"Done", 4, 5, false, "", "", 72⟩] := by kernel_rfl
theorem eqf_cons {P : Program} {w : World} {d : Nat} {xs ys : Array Value} {f : Field} {fs : List Field} {a b : Value} {r : Bool} (hn : (f.name == "_") = false) (ha : (part f.type xs f.offset).run P w = .ok a w) (hb : (part f.type ys f.offset).run P w = .ok b w) (he : (Op.equalIn d f.type a b).run P w = .ok true w) (hr : (Op.eqFields d xs ys fs).run P w = .ok r w) : (Op.eqFields d xs ys (f :: fs)).run P w = .ok r w := by
  have hn' : f.name ≠ "_" := by intro e; rw [e] at hn; simp at hn
  simp only [Op.eqFields, if_pos hn']
  simp only [Sem.run_bind, ha, hb, he, Result.andThen_ok, Bool.not_true, Bool.false_eq_true, if_false]
  exact hr
theorem self_eq (n l h x : ByteArray) (m : Int) (d : Bool) (w : World) : (Op.equalIn 10000 23 (.agg #[.string n, .string l, .string h, .string x, .int .i64 m, .bool d]) (.agg #[.string n, .string l, .string h, .string x, .int .i64 m, .bool d])).run Tryz.prog w = .ok true w := by
  rw [run_equalIn_agg _ _ _ _ _ fieldsOf_cur (by kernel_rfl), fields_cur]
  have hs := Tryz.underlying9
  have hi := Tryz.underlying3
  have hb := Tryz.underlying4
  have ps : Tryz.prog.plainKey 9 = true := by kernel_rfl
  have pi : Tryz.prog.plainKey 3 = true := by kernel_rfl
  have pb : Tryz.prog.plainKey 4 = true := by kernel_rfl
  have es : ∀ s : ByteArray, (Op.equalIn 9999 9 (.string s) (.string s)).run Tryz.prog w = .ok true w := fun s => by rw [run_equalIn_string _ _ _ _ _ hs]; simp
  have em : (Op.equalIn 9999 3 (.int .i64 m) (.int .i64 m)).run Tryz.prog w = .ok true w := by rw [run_equalIn_int _ _ _ _ _ _ _ hi]; simp
  have ed : (Op.equalIn 9999 4 (.bool d) (.bool d)).run Tryz.prog w = .ok true w := by rw [run_equalIn_bool' _ _ _ _ _ hb]; simp
  refine eqf_cons rfl (run_part_plain _ ps rfl) (run_part_plain _ ps rfl) (es n) ?_
  refine eqf_cons rfl (run_part_plain _ ps rfl) (run_part_plain _ ps rfl) (es l) ?_
  refine eqf_cons rfl (run_part_plain _ ps rfl) (run_part_plain _ ps rfl) (es h) ?_
  refine eqf_cons rfl (run_part_plain _ ps rfl) (run_part_plain _ ps rfl) (es x) ?_
  refine eqf_cons rfl (run_part_plain _ pi rfl) (run_part_plain _ pi rfl) em ?_
  refine eqf_cons rfl (run_part_plain _ pb rfl) (run_part_plain _ pb rfl) ed ?_
  rfl
theorem eql_self (n l h x : ByteArray) (m : Int) (d : Bool) (w : World) : (Go.binOp .eql 23 (.agg #[.string n, .string l, .string h, .string x, .int .i64 m, .bool d]) (.agg #[.string n, .string l, .string h, .string x, .int .i64 m, .bool d])).run Tryz.prog w = .ok (.bool true) w := by
  rw [run_eql_struct, self_eq]; rfl
theorem neq_self (n l h x : ByteArray) (m : Int) (d : Bool) (w : World) : (Go.binOp .neq 23 (.agg #[.string n, .string l, .string h, .string x, .int .i64 m, .bool d]) (.agg #[.string n, .string l, .string h, .string x, .int .i64 m, .bool d])).run Tryz.prog w = .ok (.bool false) w := by
  rw [run_neq_struct, self_eq]; rfl
/-- a row of bytes that lies in a block -/
structure Bytes (w : World) (b : Nat) (l : List UInt8) : Prop where
  cell : ∀ (j : Nat) (v : UInt8), l[j]? = some v → w.cell? ⟨b, j, none⟩ = some (.int .u8 (v.toNat : Int))
  warm : ∀ j : Nat, j < l.length → w.frozen? ⟨b, j, none⟩ = false
theorem conv_row (w : World) (S : ByteArray) : ∃ (cap : Nat) (v : World), S.size ≤ cap ∧ (convert 9 30 (.string S)).run Tryz.prog w = .ok (.slice (some ⟨w.heap.size, 0, none⟩) S.size cap) v ∧ Stands w v ∧ w.heap.size < v.heap.size ∧ Bytes v w.heap.size S.data.toList := by
  refine ⟨grownCap w S.size 0 5, Lib.bytesWorld w 5 S, ?_, Lib.run_convert_string_bytes (P := Tryz.prog) w 9 30 5 S Tryz.underlying9 Tryz.underlying30 Tryz.underlying5, ⟨rfl, rfl, by rw [Lib.bytesWorld_size]; omega, fun i hi => Lib.bytesWorld_at_old w _ S i hi⟩, by rw [Lib.bytesWorld_size]; omega, ?_, ?_⟩
  · exact grownCap_ge w S.size 0 5
  · intro j v hv
    have hj : j < S.size := (List.getElem?_eq_some_iff.1 hv).1
    rw [Lib.bytesWorld_cell w _ S j hj, List.getD_eq_getElem?_getD, hv]
    rfl
  · intro j hj
    have hj : j < S.size := hj
    unfold World.frozen?
    rw [Lib.bytesWorld_at_new]
    simp [Lib.bytesCells]
    intro h
    have := Array.size_map (xs := S.data) (f := fun b : UInt8 => Value.int .u8 b.toNat)
    have : S.data.size = S.size := rfl
    omega
theorem set_row {w : World} {b : Nat} {l : List UInt8} (h : Bytes w b l) (i x : Nat) (hx : x < 256) : Bytes (w.setCell ⟨b, i, none⟩ (.int .u8 (x : Int))) b (l.set i (UInt8.ofNat x)) := by
  have hx' : (UInt8.ofNat x).toNat = x := by simp; omega
  refine ⟨?_, ?_⟩
  · intro j v hv
    rw [List.getElem?_set] at hv
    by_cases hij : i = j
    · subst hij
      rw [if_pos rfl] at hv
      split at hv
      · rename_i hl
        injection hv with hv
        subst hv
        rw [hx']
        have hc := h.cell i l[i] (List.getElem?_eq_getElem hl)
        unfold World.cell? at hc ⊢
        unfold World.setCell
        rw [Array.getElem?_modify, if_pos rfl]
        cases hb : w.heap[b]? with
        | none => rw [hb] at hc; simp at hc
        | some o =>
          rw [hb] at hc
          cases o with
          | cells c e f =>
            simp at hc
            obtain ⟨hlt, _⟩ := Array.getElem?_eq_some_iff.1 hc
            simp [hlt]
          | _ => simp at hc
      · cases hv
    · rw [if_neg hij] at hv
      have hc := h.cell j v hv
      unfold World.cell? at hc ⊢
      unfold World.setCell
      rw [Array.getElem?_modify, if_pos rfl]
      cases hb : w.heap[b]? with
      | none => rw [hb] at hc; simp at hc
      | some o =>
        rw [hb] at hc
        cases o with
        | cells c e f =>
          simp at hc
          simp [hij, hc]
        | _ => simp at hc
  · intro j hj
    rw [List.length_set] at hj
    have hw := h.warm j hj
    unfold World.frozen? at hw ⊢
    unfold World.setCell
    rw [Array.getElem?_modify, if_pos rfl]
    cases hb : w.heap[b]? with
    | none => rfl
    | some o =>
      rw [hb] at hw
      cases o <;> simp_all
theorem set_stands (w : World) (b i : Nat) (v : Value) (u : World) (hu : u.heap.size ≤ b) (hw : Stands u w) : Stands u (w.setCell ⟨b, i, none⟩ v) := by
  refine ⟨hw.os, hw.output, ?_, ?_⟩
  · have := hw.size
    unfold World.setCell
    simp
    exact this
  · intro j hj
    have : ¬ b = j := by omega
    unfold World.setCell
    rw [Array.getElem?_modify, if_neg this]
    exact hw.blocks j hj
theorem back_row {w : World} {b cap : Nat} {S : ByteArray} {i X : Nat} (h : Bytes w b (S.data.toList.set i (UInt8.ofNat X))) : (convert 30 9 (.slice (some ⟨b, 0, none⟩) S.size cap)).run Tryz.prog w = .ok (.string (chg S i (UInt8.ofNat X))) w := by
  have hl : ((S.data.toList.set i (UInt8.ofNat X)).map UInt8.toNat).length = S.size := by rw [List.length_map, List.length_set]; rfl
  have h1 := conv_bytes (P := Tryz.prog) (w := w) (src := 30) (dst := 9) (e := 5) Tryz.underlying30 Tryz.underlying5 Tryz.underlying9 b 0 cap ((S.data.toList.set i (UInt8.ofNat X)).map UInt8.toNat) (fun j n hj => by
    rw [List.getElem?_map, Option.map_eq_some_iff] at hj
    obtain ⟨v, hv, rfl⟩ := hj
    rw [Nat.zero_add]
    exact h.cell j v hv)
  rw [hl] at h1
  rw [h1]
  have e : bytesOf ((S.data.toList.set i (UInt8.ofNat X)).map UInt8.toNat) = chg S i (UInt8.ofNat X) := by
    unfold bytesOf chg txt
    congr 2
    rw [List.map_map]
    conv => rhs; rw [← List.map_id (S.data.toList.set i (UInt8.ofNat X))]
    apply List.map_congr_left
    intro a _
    simp
  rw [e]
theorem chg_same (S : ByteArray) (i : Nat) (h : i < S.data.toList.length) : chg S i S.data.toList[i] = S := by
  unfold chg
  rw [List.set_getElem_self, txt_data]
theorem byteAt_get (S : ByteArray) (i : Nat) (h : i < S.data.toList.length) : byteAt S i = (S.data.toList[i]).toNat := by
  unfold byteAt
  rw [List.getD_eq_getElem?_getD, List.getElem?_eq_getElem h]
  rfl
end Go.Proofs.YtjjhphjbmllhhaaGreatDoor.Wk
