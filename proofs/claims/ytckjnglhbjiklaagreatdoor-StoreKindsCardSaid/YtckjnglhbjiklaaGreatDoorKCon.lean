/-
  Part of the proof of a statement of this seat: walks of its functions and the closed run; no condition but those written in each theorem.
-/
import Derived.Test.YtckjnglhbjiklaaGreatDoorKT
import Derived.Test.YtckjnglhbjiklaaGreatDoorKS
namespace Go.Proofs.YtckjnglhbjiklaaGreatDoor.Wk
set_option maxRecDepth 100000
open Go.RowKit Go.VmK Go.NumPure Go.Shelf
theorem cmp_lt {a b : List UInt8} (h : ltL a b = true) (w : World) : Calls Tryz.prog 261 #[.string (txt a), .string (txt b)] w fun e w' => e = .returned (.int .i64 (-1)) ∧ Stands w w' := by
  refine (cmp_any (txt a) (txt b) w).mono ?_
  rintro e w' ⟨rfl, rfl⟩
  refine ⟨?_, st_refl _⟩
  rw [txt_list, txt_list, h]; rfl
theorem cmp_gt {a b : List UInt8} (h : ltL b a = true) (w : World) : Calls Tryz.prog 261 #[.string (txt a), .string (txt b)] w fun e w' => e = .returned (.int .i64 1) ∧ Stands w w' := by
  refine (cmp_any (txt a) (txt b) w).mono ?_
  rintro e w' ⟨rfl, rfl⟩
  refine ⟨?_, st_refl _⟩
  rw [txt_list, txt_list, h, ltL_asym h]; rfl
theorem pw3 {a b c : List UInt8} (h1 : ltL a b = true) (h2 : ltL a c = true) (h3 : ltL b c = true) : [a, b, c].Pairwise fun x y => ltL x y = true := by
  simp [List.pairwise_cons, h1, h2, h3]
theorem pm1 (a b c : List UInt8) : [a, c, b].Perm [a, b, c] := (List.Perm.swap b c []).cons a
theorem pm2 (a b c : List UInt8) : [b, a, c].Perm [a, b, c] := List.Perm.swap a b [c]
theorem pm3 (a b c : List UInt8) : [b, c, a].Perm [a, b, c] := ((List.Perm.swap a c []).cons b).trans (pm2 a b c)
theorem pm4 (a b c : List UInt8) : [c, a, b].Perm [a, b, c] := (List.Perm.swap a c [b]).trans (pm1 a b c)
theorem pm5 (a b c : List UInt8) : [c, b, a].Perm [a, b, c] := ((List.Perm.swap a b []).cons c).trans (pm4 a b c)
theorem dot_any (w : World) : Calls Tryz.prog 364 #[.agg #[.int .u8 0, .int .u8 0, .int .u8 0, .int .u8 1, .int .u64 1]] w fun e w' => e = .returned (.string (txt dot1)) ∧ Stands w w' :=
  calls_val (C := ctx [] []) (σ0 := fun _ => none) (v := .str dot1) (args := [.agg [.int .u8 0, .int .u8 0, .int .u8 0, .int .u8 1, .int .u64 1]]) (xs := [.agg #[.int .u8 0, .int .u8 0, .int .u8 0, .int .u8 1, .int .u64 1]]) (k := 0) (n := 1000) (ctx_ok [] no_cons) mixed (by rw [← runF_eq]; kernel_rfl) (fun _ _ => rfl) rfl rfl
section
variable {name elem value : ByteArray} {w0 : World}
/-- what the runs keep -/
abbrev OO (w0 : World) (name elem value : ByteArray) := Outer w0 (sg name elem value) fun b => b < w0.heap.size
noncomputable def rowsText : List (List AV × AV) := [([.symStr 0], .symStr 5), ([.symStr 1], .symStr 6), ([.symStr 4], .symStr 7)]
theorem conText (hs : Sm name elem value) {m : Int} (hm : w0.cell? ⟨0, 0, none⟩ = some (.int .i64 m)) : ConOK Tryz.prog (OO w0 name elem value) 86 (.ans rowsText) := by
  refine ans_ok fun r hr => ?_
  simp only [rowsText, List.mem_cons, List.mem_nil_iff, or_false] at hr
  rcases hr with rfl | rfl | rfl
  · exact ⟨[.string (name)], _, rfl, rfl, fun w st => (okey_any _ m w (by have := hs.n2; have := hs.n1; omega) (cell_st st hm)).mono fun e w' ⟨h1, h2⟩ => ⟨h1, stands_of_below h2⟩⟩
  · exact ⟨[.string (elem)], _, rfl, rfl, fun w st => (okey_any _ m w (by have := hs.e1; have := hs.e2; omega) (cell_st st hm)).mono fun e w' ⟨h1, h2⟩ => ⟨h1, stands_of_below h2⟩⟩
  · exact ⟨[.string (otr name)], _, rfl, rfl, fun w st => (okey_any _ m w (by have := z4 hs; omega) (cell_st st hm)).mono fun e w' ⟨h1, h2⟩ => ⟨h1, stands_of_below h2⟩⟩
noncomputable def rowsPart : List (List AV × AV) := [([.symStr 37], .tuple [.symStr 0, .symStr 38, .int .i64 0]), ([.symStr 39], .tuple [.symStr 1, .str [0, 0, 0, 1, 0, 0, 0, 0, 0, 0, 0, 1], .int .i64 0])]
theorem conPart (hs : Sm name elem value) : ConOK Tryz.prog (OO w0 name elem value) 288 (.ans rowsPart) := by
  refine ans_ok fun r hr => ?_
  simp only [rowsPart, List.mem_cons, List.mem_nil_iff, or_false] at hr
  rcases hr with rfl | rfl
  · refine ⟨[.string (txt (ok name.data.toList ++ 3 :: (ok elem.data.toList ++ dot1)))], .tuple #[.string name, .string (txt (3 :: (ok elem.data.toList ++ dot1))), .int .i64 0], rfl, rfl, fun w st => (part_any name.data.toList (3 :: (ok elem.data.toList ++ dot1)) (txt (ok name.data.toList ++ 3 :: (ok elem.data.toList ++ dot1))) ?_ (by have := z92 hs; omega) w).mono fun e w' ⟨h1, h2⟩ => ⟨by rw [h1, txt_data], stands_of_below h2⟩⟩
    show _ ++ _ = _
    simp [ok]
  · refine ⟨[.string (txt (ok elem.data.toList ++ dot1))], .tuple #[.string elem, .string (txt (dot1)), .int .i64 0], rfl, rfl, fun w st => (part_any elem.data.toList (dot1) (txt (ok elem.data.toList ++ dot1)) ?_ (by have := z94 hs; omega) w).mono fun e w' ⟨h1, h2⟩ => ⟨by rw [h1, txt_data], stands_of_below h2⟩⟩
    show _ ++ _ = _
    simp [ok]
noncomputable def rowsClone : List (List AV × AV) := [([.symStr 0], .symStr 0), ([.symStr 1], .symStr 1), ([.symStr 2], .symStr 2), ([.symStr 4], .symStr 4), ([.symStr 10], .symStr 10), ([.symStr 11], .symStr 11), ([.symStr 14], .symStr 14), ([.symStr 15], .symStr 15), ([.symStr 22], .symStr 22), ([.symStr 23], .symStr 23), ([.symStr 38], .symStr 38)]
theorem conClone (hs : Sm name elem value) : ConOK Tryz.prog (OO w0 name elem value) 69 (.ans rowsClone) := by
  refine ans_ok fun r hr => ?_
  simp only [rowsClone, List.mem_cons, List.mem_nil_iff, or_false] at hr
  rcases hr with rfl | rfl | rfl | rfl | rfl | rfl | rfl | rfl | rfl | rfl | rfl
  · exact ⟨[.string (name)], _, rfl, rfl, fun w _ => clone_any _ (by have := hs.n2; have := hs.n1; omega) w⟩
  · exact ⟨[.string (elem)], _, rfl, rfl, fun w _ => clone_any _ (by have := hs.e1; have := hs.e2; omega) w⟩
  · exact ⟨[.string (value)], _, rfl, rfl, fun w _ => clone_any _ (by have := hs.v; omega) w⟩
  · exact ⟨[.string (otr name)], _, rfl, rfl, fun w _ => clone_any _ (by have := z4 hs; omega) w⟩
  · exact ⟨[.string (txt (key name.data.toList [0]))], _, rfl, rfl, fun w _ => clone_any _ (by have := z30 hs; omega) w⟩
  · exact ⟨[.string (txt (key name.data.toList [1]))], _, rfl, rfl, fun w _ => clone_any _ (by have := z31 hs; omega) w⟩
  · exact ⟨[.string (txt (key (otr name).data.toList [0]))], _, rfl, rfl, fun w _ => clone_any _ (by have := z40 hs; omega) w⟩
  · exact ⟨[.string (txt (key (otr name).data.toList [1]))], _, rfl, rfl, fun w _ => clone_any _ (by have := z41 hs; omega) w⟩
  · exact ⟨[.string (txt (key name.data.toList (sD elem.data.toList)))], _, rfl, rfl, fun w _ => clone_any _ (by have := z60 hs; omega) w⟩
  · exact ⟨[.string (txt (key (otr name).data.toList (sD elem.data.toList)))], _, rfl, rfl, fun w _ => clone_any _ (by have := z61 hs; omega) w⟩
  · exact ⟨[.string (txt (3 :: (ok elem.data.toList ++ dot1)))], _, rfl, rfl, fun w _ => clone_any _ (by have := z93 hs; omega) w⟩
noncomputable def rowsBatch : List (List PArg × AV) := [([(.agg [.v (.int .u64 1), .row 3 [.symStr 10, .str [1], .bool false, .symStr 11, .str [1, 0, 0, 0, 1, 1, 0], .bool false, .symStr 22, .str [], .bool false]])], .tuple [.symStr 24, .int .i64 0]), ([(.agg [.v (.int .u64 4), .row 3 [.symStr 14, .str [2], .bool false, .symStr 15, .str [1, 0, 0, 0, 1, 1, 0], .bool false, .symStr 23, .symStr 2, .bool false]])], .tuple [.symStr 26, .int .i64 0])]
theorem conBatch (hs : Sm name elem value) : ConOK Tryz.prog (OO w0 name elem value) 117 (.fn (patFn rowsBatch)) := by
  refine patFn_ok fun r hr => ?_
  simp only [rowsBatch, List.mem_cons, List.mem_nil_iff, or_false] at hr
  rcases hr with rfl | rfl
  · refine ⟨?_, .tuple #[.string (txt (bt 1 [(txt (key name.data.toList [0]), ⟨#[1]⟩), (txt (key name.data.toList [1]), ckb), (txt (key name.data.toList (sD elem.data.toList)), ⟨#[]⟩)])), .int .i64 0], rfl, ?_⟩
    · intro p hp
      obtain rfl := by simpa using hp
      intro q hq
      simp only [List.mem_cons, List.mem_nil_iff, or_false] at hq
      rcases hq with rfl | rfl <;> rfl
    · rintro w ys st ⟨y, zs, rfl, ⟨l, rfl, y0, l1, rfl, h0, y1, l2, rfl, ⟨bk, off, cap, xs, rfl, hbk, hxs, hc⟩, rfl⟩, rfl⟩
      obtain rfl : Value.int .u64 1 = y0 := Option.some.inj h0
      obtain rfl : _ = xs := Option.some.inj hxs
      refine (batch_any 1 [(txt (key name.data.toList [0]), ⟨#[1]⟩), (txt (key name.data.toList [1]), ckb), (txt (key name.data.toList (sD elem.data.toList)), ⟨#[]⟩)] bk off cap w (by decide) hbk (by simp) (by simp) (wx1 hs) ?_).mono fun e w' ⟨h1, h2⟩ => ⟨h1, stands_of_below h2⟩
      intro j p hj
      match j, hj with
      | 0, hj => cases hj; exact ⟨hc 0 _ rfl, hc 1 _ rfl, hc 2 _ rfl⟩
      | 1, hj => cases hj; exact ⟨hc 3 _ rfl, hc 4 _ rfl, hc 5 _ rfl⟩
      | 2, hj => cases hj; exact ⟨hc 6 _ rfl, hc 7 _ rfl, hc 8 _ rfl⟩
  · refine ⟨?_, .tuple #[.string (txt (bt 4 [(txt (key (otr name).data.toList [0]), ⟨#[2]⟩), (txt (key (otr name).data.toList [1]), ckb), (txt (key (otr name).data.toList (sD elem.data.toList)), value)])), .int .i64 0], rfl, ?_⟩
    · intro p hp
      obtain rfl := by simpa using hp
      intro q hq
      simp only [List.mem_cons, List.mem_nil_iff, or_false] at hq
      rcases hq with rfl | rfl <;> rfl
    · rintro w ys st ⟨y, zs, rfl, ⟨l, rfl, y0, l1, rfl, h0, y1, l2, rfl, ⟨bk, off, cap, xs, rfl, hbk, hxs, hc⟩, rfl⟩, rfl⟩
      obtain rfl : Value.int .u64 4 = y0 := Option.some.inj h0
      obtain rfl : _ = xs := Option.some.inj hxs
      refine (batch_any 4 [(txt (key (otr name).data.toList [0]), ⟨#[2]⟩), (txt (key (otr name).data.toList [1]), ckb), (txt (key (otr name).data.toList (sD elem.data.toList)), value)] bk off cap w (by decide) hbk (by simp) (by simp) (wx2 hs) ?_).mono fun e w' ⟨h1, h2⟩ => ⟨h1, stands_of_below h2⟩
      intro j p hj
      match j, hj with
      | 0, hj => cases hj; exact ⟨hc 0 _ rfl, hc 1 _ rfl, hc 2 _ rfl⟩
      | 1, hj => cases hj; exact ⟨hc 3 _ rfl, hc 4 _ rfl, hc 5 _ rfl⟩
      | 2, hj => cases hj; exact ⟨hc 6 _ rfl, hc 7 _ rfl, hc 8 _ rfl⟩
noncomputable def rowsFrame : List (List AV × AV) := [([.symStr 24], .symStr 25), ([.symStr 26], .symStr 27)]
theorem conFrame (hs : Sm name elem value) : ConOK Tryz.prog (OO w0 name elem value) 171 (.fn (rowFn rowsFrame)) := by
  refine rowFn_ok fun r hr => ?_
  simp only [rowsFrame, List.mem_cons, List.mem_nil_iff, or_false] at hr
  rcases hr with rfl | rfl
  · exact ⟨[.string (txt (bt 1 [(txt (key name.data.toList [0]), ⟨#[1]⟩), (txt (key name.data.toList [1]), ckb), (txt (key name.data.toList (sD elem.data.toList)), ⟨#[]⟩)]))], .string (txt (fr (bt 1 [(txt (key name.data.toList [0]), ⟨#[1]⟩), (txt (key name.data.toList [1]), ckb), (txt (key name.data.toList (sD elem.data.toList)), ⟨#[]⟩)]))), rfl, rfl, fun w bk off cap _ hb hc => (frame_any (txt (bt 1 [(txt (key name.data.toList [0]), ⟨#[1]⟩), (txt (key name.data.toList [1]), ckb), (txt (key name.data.toList (sD elem.data.toList)), ⟨#[]⟩)])) bk off cap w hb (by have := z70 hs; omega) (hc 0 _ rfl)).mono fun e w' ⟨h1, h2⟩ => ⟨by rw [h1, txt_list], h2⟩⟩
  · exact ⟨[.string (txt (bt 4 [(txt (key (otr name).data.toList [0]), ⟨#[2]⟩), (txt (key (otr name).data.toList [1]), ckb), (txt (key (otr name).data.toList (sD elem.data.toList)), value)]))], .string (txt (fr (bt 4 [(txt (key (otr name).data.toList [0]), ⟨#[2]⟩), (txt (key (otr name).data.toList [1]), ckb), (txt (key (otr name).data.toList (sD elem.data.toList)), value)]))), rfl, rfl, fun w bk off cap _ hb hc => (frame_any (txt (bt 4 [(txt (key (otr name).data.toList [0]), ⟨#[2]⟩), (txt (key (otr name).data.toList [1]), ckb), (txt (key (otr name).data.toList (sD elem.data.toList)), value)])) bk off cap w hb (by have := z72 hs; omega) (hc 0 _ rfl)).mono fun e w' ⟨h1, h2⟩ => ⟨by rw [h1, txt_list], h2⟩⟩
noncomputable def rowsNT : List (List AV × AV) := [([.symStr 0], .symStr 33), ([.symStr 4], .symStr 40)]
theorem conNT (hs : Sm name elem value) : ConOK Tryz.prog (OO w0 name elem value) 149 (.fn (rowFn rowsNT)) := by
  refine rowFn_ok fun r hr => ?_
  simp only [rowsNT, List.mem_cons, List.mem_nil_iff, or_false] at hr
  rcases hr with rfl | rfl
  · refine ⟨[.string (name)], _, rfl, rfl, fun w bk off cap _ hb hc => (text_any [name] bk off cap w hb (by simp) (by have := z84 hs; rw [txt_size] at this; omega) (by intro s hq; simp at hq; subst hq; have := hs.n2; have := hs.n1; omega) (fun j s hj => ?_)).mono fun e w' ⟨h1, h2⟩ => ⟨h1, stands_of_below h2⟩⟩
    match j, hj with
    | 0, hj => cases hj; exact hc 0 _ rfl
  · refine ⟨[.string (otr name)], _, rfl, rfl, fun w bk off cap _ hb hc => (text_any [otr name] bk off cap w hb (by simp) (by have := z184 hs; rw [txt_size] at this; omega) (by intro s hq; simp at hq; subst hq; have := z4 hs; omega) (fun j s hj => ?_)).mono fun e w' ⟨h1, h2⟩ => ⟨h1, stands_of_below h2⟩⟩
    match j, hj with
    | 0, hj => cases hj; exact hc 0 _ rfl
noncomputable def rowsItems : List (List PArg × AV) := [([(.one (.row 1 [.symStr 1, .int .u8 0, .int .u8 0, .int .u8 0, .int .u8 1, .int .u64 1, .str []]))], .symStr 35), ([(.one (.row 1 [.symStr 1, .int .u8 0, .int .u8 0, .int .u8 0, .int .u8 1, .int .u64 1, .symStr 2]))], .symStr 42)]
theorem conItems (hs : Sm name elem value) : ConOK Tryz.prog (OO w0 name elem value) 300 (.fn (patFn rowsItems)) := by
  refine patFn_ok fun r hr => ?_
  simp only [rowsItems, List.mem_cons, List.mem_nil_iff, or_false] at hr
  rcases hr with rfl | rfl
  · refine ⟨?_, .string (txt (itm elem (txt dot1) ⟨#[]⟩)), rfl, ?_⟩
    · intro p hp
      obtain rfl := by simpa using hp
      rfl
    · rintro w ys st ⟨y, zs, rfl, ⟨bk, off, cap, xs, rfl, hbk, hxs, hc⟩, rfl⟩
      obtain rfl : _ = xs := Option.some.inj hxs
      exact items_any elem ⟨#[]⟩ (txt dot1) 0 0 0 1 1 bk off cap w hbk (by have := hs.e2; omega) (by decide) (by decide) dot_any (hc 0 _ rfl) (hc 1 _ rfl) (hc 2 _ rfl) (hc 3 _ rfl) (hc 4 _ rfl) (hc 5 _ rfl) (hc 6 _ rfl)
  · refine ⟨?_, .string (txt (itm elem (txt dot1) value)), rfl, ?_⟩
    · intro p hp
      obtain rfl := by simpa using hp
      rfl
    · rintro w ys st ⟨y, zs, rfl, ⟨bk, off, cap, xs, rfl, hbk, hxs, hc⟩, rfl⟩
      obtain rfl : _ = xs := Option.some.inj hxs
      exact items_any elem value (txt dot1) 0 0 0 1 1 bk off cap w hbk (by have := hs.e2; omega) (by have := hs.v; omega) (by decide) dot_any (hc 0 _ rfl) (hc 1 _ rfl) (hc 2 _ rfl) (hc 3 _ rfl) (hc 4 _ rfl) (hc 5 _ rfl) (hc 6 _ rfl)
noncomputable def rowsSort : List (List AV × List AV) := [([.symStr 10, .symStr 11, .symStr 22], [.symStr 10, .symStr 11, .symStr 22]), ([.symStr 10, .symStr 22, .symStr 11], [.symStr 10, .symStr 11, .symStr 22]), ([.symStr 11, .symStr 10, .symStr 22], [.symStr 10, .symStr 11, .symStr 22]), ([.symStr 11, .symStr 22, .symStr 10], [.symStr 10, .symStr 11, .symStr 22]), ([.symStr 22, .symStr 10, .symStr 11], [.symStr 10, .symStr 11, .symStr 22]), ([.symStr 22, .symStr 11, .symStr 10], [.symStr 10, .symStr 11, .symStr 22]), ([.symStr 14, .symStr 15, .symStr 23], [.symStr 14, .symStr 15, .symStr 23]), ([.symStr 14, .symStr 23, .symStr 15], [.symStr 14, .symStr 15, .symStr 23]), ([.symStr 15, .symStr 14, .symStr 23], [.symStr 14, .symStr 15, .symStr 23]), ([.symStr 15, .symStr 23, .symStr 14], [.symStr 14, .symStr 15, .symStr 23]), ([.symStr 23, .symStr 14, .symStr 15], [.symStr 14, .symStr 15, .symStr 23]), ([.symStr 23, .symStr 15, .symStr 14], [.symStr 14, .symStr 15, .symStr 23])]
theorem conSort_ok : ConOK Tryz.prog (OO w0 name elem value) 197 (.fn (sortFn rowsSort)) := by
  refine sortFn_ok (fun r hr => ?_) fun blk off cap ss w h1 h2 h3 => AnyM.slices_Sort_string Tryz.mSort blk off cap ss w h1 h2 h3
  simp only [rowsSort, List.mem_cons, List.mem_nil_iff, or_false] at hr
  rcases hr with rfl | rfl | rfl | rfl | rfl | rfl | rfl | rfl | rfl | rfl | rfl | rfl
  · exact ⟨[key name.data.toList [0], key name.data.toList [1], key name.data.toList (sD elem.data.toList)], [key name.data.toList [0], key name.data.toList [1], key name.data.toList (sD elem.data.toList)], rfl, rfl, sort_row (List.Perm.refl _) (pw3 (key_lt _ (rfl : ltL ([0]) ([1]) = true)) (key_lt _ (rfl : ltL ([0]) (sD elem.data.toList) = true)) (key_lt _ (rfl : ltL ([1]) (sD elem.data.toList) = true)))⟩
  · exact ⟨[key name.data.toList [0], key name.data.toList (sD elem.data.toList), key name.data.toList [1]], [key name.data.toList [0], key name.data.toList [1], key name.data.toList (sD elem.data.toList)], rfl, rfl, sort_row (pm1 _ _ _) (pw3 (key_lt _ (rfl : ltL ([0]) ([1]) = true)) (key_lt _ (rfl : ltL ([0]) (sD elem.data.toList) = true)) (key_lt _ (rfl : ltL ([1]) (sD elem.data.toList) = true)))⟩
  · exact ⟨[key name.data.toList [1], key name.data.toList [0], key name.data.toList (sD elem.data.toList)], [key name.data.toList [0], key name.data.toList [1], key name.data.toList (sD elem.data.toList)], rfl, rfl, sort_row (pm2 _ _ _) (pw3 (key_lt _ (rfl : ltL ([0]) ([1]) = true)) (key_lt _ (rfl : ltL ([0]) (sD elem.data.toList) = true)) (key_lt _ (rfl : ltL ([1]) (sD elem.data.toList) = true)))⟩
  · exact ⟨[key name.data.toList [1], key name.data.toList (sD elem.data.toList), key name.data.toList [0]], [key name.data.toList [0], key name.data.toList [1], key name.data.toList (sD elem.data.toList)], rfl, rfl, sort_row (pm3 _ _ _) (pw3 (key_lt _ (rfl : ltL ([0]) ([1]) = true)) (key_lt _ (rfl : ltL ([0]) (sD elem.data.toList) = true)) (key_lt _ (rfl : ltL ([1]) (sD elem.data.toList) = true)))⟩
  · exact ⟨[key name.data.toList (sD elem.data.toList), key name.data.toList [0], key name.data.toList [1]], [key name.data.toList [0], key name.data.toList [1], key name.data.toList (sD elem.data.toList)], rfl, rfl, sort_row (pm4 _ _ _) (pw3 (key_lt _ (rfl : ltL ([0]) ([1]) = true)) (key_lt _ (rfl : ltL ([0]) (sD elem.data.toList) = true)) (key_lt _ (rfl : ltL ([1]) (sD elem.data.toList) = true)))⟩
  · exact ⟨[key name.data.toList (sD elem.data.toList), key name.data.toList [1], key name.data.toList [0]], [key name.data.toList [0], key name.data.toList [1], key name.data.toList (sD elem.data.toList)], rfl, rfl, sort_row (pm5 _ _ _) (pw3 (key_lt _ (rfl : ltL ([0]) ([1]) = true)) (key_lt _ (rfl : ltL ([0]) (sD elem.data.toList) = true)) (key_lt _ (rfl : ltL ([1]) (sD elem.data.toList) = true)))⟩
  · exact ⟨[key (otr name).data.toList [0], key (otr name).data.toList [1], key (otr name).data.toList (sD elem.data.toList)], [key (otr name).data.toList [0], key (otr name).data.toList [1], key (otr name).data.toList (sD elem.data.toList)], rfl, rfl, sort_row (List.Perm.refl _) (pw3 (key_lt _ (rfl : ltL ([0]) ([1]) = true)) (key_lt _ (rfl : ltL ([0]) (sD elem.data.toList) = true)) (key_lt _ (rfl : ltL ([1]) (sD elem.data.toList) = true)))⟩
  · exact ⟨[key (otr name).data.toList [0], key (otr name).data.toList (sD elem.data.toList), key (otr name).data.toList [1]], [key (otr name).data.toList [0], key (otr name).data.toList [1], key (otr name).data.toList (sD elem.data.toList)], rfl, rfl, sort_row (pm1 _ _ _) (pw3 (key_lt _ (rfl : ltL ([0]) ([1]) = true)) (key_lt _ (rfl : ltL ([0]) (sD elem.data.toList) = true)) (key_lt _ (rfl : ltL ([1]) (sD elem.data.toList) = true)))⟩
  · exact ⟨[key (otr name).data.toList [1], key (otr name).data.toList [0], key (otr name).data.toList (sD elem.data.toList)], [key (otr name).data.toList [0], key (otr name).data.toList [1], key (otr name).data.toList (sD elem.data.toList)], rfl, rfl, sort_row (pm2 _ _ _) (pw3 (key_lt _ (rfl : ltL ([0]) ([1]) = true)) (key_lt _ (rfl : ltL ([0]) (sD elem.data.toList) = true)) (key_lt _ (rfl : ltL ([1]) (sD elem.data.toList) = true)))⟩
  · exact ⟨[key (otr name).data.toList [1], key (otr name).data.toList (sD elem.data.toList), key (otr name).data.toList [0]], [key (otr name).data.toList [0], key (otr name).data.toList [1], key (otr name).data.toList (sD elem.data.toList)], rfl, rfl, sort_row (pm3 _ _ _) (pw3 (key_lt _ (rfl : ltL ([0]) ([1]) = true)) (key_lt _ (rfl : ltL ([0]) (sD elem.data.toList) = true)) (key_lt _ (rfl : ltL ([1]) (sD elem.data.toList) = true)))⟩
  · exact ⟨[key (otr name).data.toList (sD elem.data.toList), key (otr name).data.toList [0], key (otr name).data.toList [1]], [key (otr name).data.toList [0], key (otr name).data.toList [1], key (otr name).data.toList (sD elem.data.toList)], rfl, rfl, sort_row (pm4 _ _ _) (pw3 (key_lt _ (rfl : ltL ([0]) ([1]) = true)) (key_lt _ (rfl : ltL ([0]) (sD elem.data.toList) = true)) (key_lt _ (rfl : ltL ([1]) (sD elem.data.toList) = true)))⟩
  · exact ⟨[key (otr name).data.toList (sD elem.data.toList), key (otr name).data.toList [1], key (otr name).data.toList [0]], [key (otr name).data.toList [0], key (otr name).data.toList [1], key (otr name).data.toList (sD elem.data.toList)], rfl, rfl, sort_row (pm5 _ _ _) (pw3 (key_lt _ (rfl : ltL ([0]) ([1]) = true)) (key_lt _ (rfl : ltL ([0]) (sD elem.data.toList) = true)) (key_lt _ (rfl : ltL ([1]) (sD elem.data.toList) = true)))⟩
end
end Go.Proofs.YtckjnglhbjiklaaGreatDoor.Wk
