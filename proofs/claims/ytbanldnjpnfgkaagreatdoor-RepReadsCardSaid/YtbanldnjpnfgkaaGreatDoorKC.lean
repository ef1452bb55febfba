/-
  Part of the proof of a statement of this seat: walks of its functions and the closed run; no condition but those written in each theorem.
-/
import Derived.Test.YtbanldnjpnfgkaaGreatDoorRL
import Derived.Test.YtbanldnjpnfgkaaGreatDoorYB
import Derived.ChangeMaps5
import Derived.Shelf.Vars
namespace Go.Proofs.YtbanldnjpnfgkaaGreatDoor.Wk
set_option maxRecDepth 100000
open Go.RowKit Go.VmK Go.ChangeShapes Go.WideShapes Go.Proofs
variable {H : Type} {enc : TypeId × Value → H}
theorem cM : Tryz.prog.cellsOf 28 = 18 := by kernel_rfl
theorem cD : Tryz.prog.cellsOf 25 = 5 := by kernel_rfl
theorem cIT : Tryz.prog.cellsOf 96 = 7 := by kernel_rfl
theorem cI : Tryz.prog.cellsOf 22 = 1 := by kernel_rfl
theorem cSP : Tryz.prog.cellsOf 23 = 1 := by kernel_rfl
theorem cST : Tryz.prog.cellsOf 26 = 1 := by kernel_rfl
theorem c_int : Tryz.prog.cellsOf 3 = 1 := by kernel_rfl
theorem c_str : Tryz.prog.cellsOf 9 = 1 := by kernel_rfl
theorem c_bool : Tryz.prog.cellsOf 4 = 1 := by kernel_rfl
theorem max_len {W : World} (h : W.ShapedOpen Tryz.prog) : ∃ m, W.cell? ⟨0, 0, none⟩ = some (.int .i64 m) :=
  cell_of_shapedOpen_int (zero := #[.int .i64 0]) (t := 3) h (of_decide_eq_true (by kernel_rfl)) (by kernel_rfl) rfl (by kernel_rfl) (by kernel_rfl) Tryz.underlying3
theorem texts_slice {sz a b : Nat} {w : World} {v : Value} (h : Texts sz a b w v) : ∃ ao l cp, v = .slice ao l cp := by
  rcases h with ⟨ao, cap, rfl⟩ | ⟨bk, off, len, cap, fs, ls, rfl, _⟩
  · exact ⟨_, _, _, rfl⟩
  · exact ⟨_, _, _, rfl⟩
theorem strs_slice {w : World} {v : Value} (h : Strs w v) : ∃ ao l cp, v = .slice ao l cp := by
  rcases h with ⟨ao, cap, rfl⟩ | ⟨bk, off, len, cap, fs, rfl, _⟩
  · exact ⟨_, _, _, rfl⟩
  · exact ⟨_, _, _, rfl⟩
theorem walk {W : World} {base : Nat} {v0 v1 v2 : Value} {d0 d1 d2 : DataW H} {p0 p1 p2 : List MemPlace} (hsh : W.ShapedOpen Tryz.prog) (hv0 : Value.okWide Tryz.prog W .any base 9 v0) (hv1 : Value.okWide Tryz.prog W .any base 9 v1) (hv2 : Value.okWide Tryz.prog W .any base 28 v2)
    (h0 : DataW.Trod enc Tryz.prog W 0 (fun _ => true) true 9 v0 d0 p0) (h1 : DataW.Trod enc Tryz.prog W 0 (fun _ => true) true 9 v1 d1 p1) (h2 : DataW.Trod enc Tryz.prog W 0 (fun _ => true) true 28 v2 d2 p2) :
    Calls Tryz.prog 3 #[v0, v1, v2] W fun e W' => e = .returned (.bool true) ∧ Stands W W' := by
  obtain ⟨x0, rfl, _⟩ := Go.ChangeMaps.open_string Tryz.underlying9 hv0 h0
  obtain ⟨x1, rfl, _⟩ := Go.ChangeMaps.open_string Tryz.underlying9 hv1 h1
  obtain ⟨mx, hmx⟩ := max_len hsh
  clear h0 h1
  obtain ⟨cs, rfl, hsz⟩ := agg_of Tryz.underlying28 hv2
  rw [cM] at hsz
  obtain ⟨l⟩ := cs
  match l, hsz with
  | [c0, c1, c2, c3, c4, c5, c6, c7, c8, c9, c10, c11, c12, c13, c14, c15, c16, c17], _ =>
    obtain ⟨fuel, ht⟩ := h2
    obtain ⟨xs, n, _, _, hl, hxl, hf⟩ := DataW.trod_struct Tryz.underlying28 ht
    have hsome : ∀ i, i < 14 → ∃ y, xs[i]? = some y := fun i hi => ⟨_, List.getElem?_eq_getElem (by simp at hxl; omega)⟩
    obtain ⟨y0, g0⟩ := hsome 0 (by decide)
    have f0 := (hf 0 _ rfl).trans g0
    obtain ⟨y1, g1⟩ := hsome 1 (by decide)
    have f1 := (hf 1 _ rfl).trans g1
    obtain ⟨y2, g2⟩ := hsome 2 (by decide)
    have f2 := (hf 2 _ rfl).trans g2
    obtain ⟨y3, g3⟩ := hsome 3 (by decide)
    have f3 := (hf 3 _ rfl).trans g3
    obtain ⟨y4, g4⟩ := hsome 4 (by decide)
    have f4 := (hf 4 _ rfl).trans g4
    obtain ⟨y5, g5⟩ := hsome 5 (by decide)
    have f5 := (hf 5 _ rfl).trans g5
    obtain ⟨y6, g6⟩ := hsome 6 (by decide)
    have f6 := (hf 6 _ rfl).trans g6
    obtain ⟨y7, g7⟩ := hsome 7 (by decide)
    have f7 := (hf 7 _ rfl).trans g7
    obtain ⟨y8, g8⟩ := hsome 8 (by decide)
    have f8 := (hf 8 _ rfl).trans g8
    obtain ⟨y9, g9⟩ := hsome 9 (by decide)
    have f9 := (hf 9 _ rfl).trans g9
    obtain ⟨y10, g10⟩ := hsome 10 (by decide)
    have f10 := (hf 10 _ rfl).trans g10
    obtain ⟨y11, g11⟩ := hsome 11 (by decide)
    have f11 := (hf 11 _ rfl).trans g11
    obtain ⟨y12, g12⟩ := hsome 12 (by decide)
    have f12 := (hf 12 _ rfl).trans g12
    obtain ⟨y13, g13⟩ := hsome 13 (by decide)
    have f13 := (hf 13 _ rfl).trans g13
    simp only [Value.cells] at f0 f1 f2 f3 f4 f5 f6 f7 f8 f9 f10 f11 f12 f13
    obtain ⟨k, e0⟩ := int_at Tryz.underlying3 f0
    cases e0
    obtain ⟨f, e1⟩ := int_at Tryz.underlying3 f1
    cases e1
    obtain ⟨t, e2⟩ := int_at Tryz.underlying3 f2
    cases e2
    obtain ⟨r, e3⟩ := int_at Tryz.underlying3 f3
    cases e3
    obtain ⟨zs, m, _, _, hl4, hzl, hg⟩ := DataW.trod_struct Tryz.underlying25 f4
    have zsome : ∀ i, i < 5 → ∃ y, zs[i]? = some y := fun i hi => ⟨_, List.getElem?_eq_getElem (by simp at hzl; omega)⟩
    obtain ⟨z0, h0⟩ := zsome 0 (by decide)
    have q0 := (hg 0 _ rfl).trans h0
    obtain ⟨z1, h1⟩ := zsome 1 (by decide)
    have q1 := (hg 1 _ rfl).trans h1
    obtain ⟨z2, h2⟩ := zsome 2 (by decide)
    have q2 := (hg 2 _ rfl).trans h2
    obtain ⟨z3, h3⟩ := zsome 3 (by decide)
    have q3 := (hg 3 _ rfl).trans h3
    obtain ⟨z4, h4⟩ := zsome 4 (by decide)
    have q4 := (hg 4 _ rfl).trans h4
    obtain ⟨dk, r0⟩ := int_at Tryz.underlying3 q0
    cases r0
    obtain ⟨dn, r1⟩ := str_at Tryz.underlying9 q1
    cases r1
    obtain ⟨dp, r2, hdp⟩ := texts_at (i := 0) (j := 2) Tryz.underlying22 Tryz.underlying96 Tryz.underlying9 c_str cIT (by decide) rfl rfl rfl rfl (by decide) (by decide) q2
    cases r2
    obtain ⟨so, sl, sc, r3⟩ := slice_at Tryz.underlying23 q3
    cases r3
    obtain ⟨go, gl, gc, r4⟩ := slice_at Tryz.underlying23 q4
    cases r4
    obtain ⟨nm, e5⟩ := str_at Tryz.underlying9 f5
    cases e5
    obtain ⟨lo, e6⟩ := str_at Tryz.underlying9 f6
    cases e6
    obtain ⟨nx, e7⟩ := str_at Tryz.underlying9 f7
    cases e7
    obtain ⟨dn2, e8⟩ := bool_at Tryz.underlying4 f8
    cases e8
    obtain ⟨ob, e9⟩ := int_at Tryz.underlying3 f9
    cases e9
    obtain ⟨ns, e10, hns⟩ := strs_at Tryz.underlying26 Tryz.underlying9 c_str f10
    cases e10
    obtain ⟨it, e11, hit⟩ := texts_at (i := 0) (j := 2) Tryz.underlying22 Tryz.underlying96 Tryz.underlying9 c_str cIT (by decide) rfl rfl rfl rfl (by decide) (by decide) f11
    cases e11
    obtain ⟨s2o, s2l, s2c, e12⟩ := slice_at Tryz.underlying23 f12
    cases e12
    obtain ⟨g2o, g2l, g2c, e13⟩ := slice_at Tryz.underlying23 f13
    cases e13
    obtain ⟨pa, pl, pc, e6'⟩ := texts_slice hdp
    obtain ⟨na, nl, nc, e14'⟩ := strs_slice hns
    obtain ⟨ia, il, ic, e15'⟩ := texts_slice hit
    have hcl : Cells (fun j => ([0, 0, 0, 0, 0, 0, pl, sl, gl, 0, 0, 0, 0, 0, 0, il, s2l, g2l] : List Nat).getD j 0) (fun j => ([Value.int .i64 k, .int .i64 f, .int .i64 t, .int .i64 r, .int .i64 dk, .string dn, c6, .slice so sl sc, .slice go gl gc, .string nm, .string lo, .string nx, .bool dn2, .int .i64 ob, c14, c15, .slice s2o s2l s2c, .slice g2o g2l g2c] : List Value).getD j (.bool false)) := by
      subst e6' e14' e15'
      refine ⟨fun j hj => ?_, fun j hj => ?_⟩
      · obtain rfl | rfl | rfl | rfl | rfl | rfl | rfl | rfl | rfl | rfl | rfl | rfl | rfl | rfl | rfl | rfl | rfl | rfl : j = 0 ∨ j = 1 ∨ j = 2 ∨ j = 3 ∨ j = 4 ∨ j = 5 ∨ j = 6 ∨ j = 7 ∨ j = 8 ∨ j = 9 ∨ j = 10 ∨ j = 11 ∨ j = 12 ∨ j = 13 ∨ j = 14 ∨ j = 15 ∨ j = 16 ∨ j = 17 := by omega
        all_goals rfl
      · simp only [List.mem_cons, List.mem_nil_iff, or_false] at hj
        rcases hj with rfl | rfl | rfl | rfl | rfl | rfl <;> exact ⟨_, _, rfl⟩
    refine law_all x0 x1 hcl W (fun w st => ?_) hmx
    refine (msg_any k f t r dk ob dn nm lo nx dn2 c6 c14 c15 so go s2o g2o sl sc gl gc s2l s2c g2l g2c w (hdp.stands st) (hit.stands st) (hns.stands st)).mono fun e w' ⟨h1, h2⟩ => ?_
    obtain ⟨v, rfl⟩ := h1
    exact ⟨v, rfl, h2⟩
end Go.Proofs.YtbanldnjpnfgkaaGreatDoor.Wk
