/-
  Part of the proof of a statement of this seat: walks of its functions and the closed run; no condition but those written in each theorem.
-/
import Derived.Test.YtckjnglhbjiklaaGreatDoorKF
import Derived.Test.YtckjnglhbjiklaaGreatDoorKCon
import Derived.Test.YtckjnglhbjiklaaGreatDoorKA
namespace Go.Proofs.YtckjnglhbjiklaaGreatDoor.Wk
set_option maxRecDepth 100000
open Go.RowKit Go.VmK Go.NumPure Go.Shelf
section
variable {name elem value : ByteArray} {w0 : World}
noncomputable def rowsCmpLt : List (List AV × AV) := [([.symStr 10, .symStr 11], .int .i64 (-1)), ([.symStr 10, .symStr 14], .int .i64 (-1)), ([.symStr 10, .symStr 15], .int .i64 (-1)), ([.symStr 10, .symStr 22], .int .i64 (-1)), ([.symStr 10, .symStr 23], .int .i64 (-1)), ([.symStr 11, .symStr 14], .int .i64 (-1)), ([.symStr 11, .symStr 15], .int .i64 (-1)), ([.symStr 11, .symStr 22], .int .i64 (-1)), ([.symStr 11, .symStr 23], .int .i64 (-1)), ([.symStr 14, .symStr 15], .int .i64 (-1)), ([.symStr 14, .symStr 23], .int .i64 (-1)), ([.symStr 15, .symStr 23], .int .i64 (-1)), ([.symStr 22, .symStr 14], .int .i64 (-1)), ([.symStr 22, .symStr 15], .int .i64 (-1)), ([.symStr 22, .symStr 23], .int .i64 (-1))]
theorem conCmpLt (_hs : Sm name elem value) (hab : ltL name.data.toList (otr name).data.toList = true) : ConOK Tryz.prog (OO w0 name elem value) 261 (.ans rowsCmpLt) := by
  refine ans_ok fun r hr => ?_
  simp only [rowsCmpLt, List.mem_cons, List.mem_nil_iff, or_false] at hr
  rcases hr with rfl | rfl | rfl | rfl | rfl | rfl | rfl | rfl | rfl | rfl | rfl | rfl | rfl | rfl | rfl
  · exact ⟨[.string (txt (key name.data.toList [0])), .string (txt (key name.data.toList [1]))], _, rfl, rfl, fun w _ => cmp_lt (key_lt _ (rfl : ltL ([0]) ([1]) = true)) w⟩
  · exact ⟨[.string (txt (key name.data.toList [0])), .string (txt (key (otr name).data.toList [0]))], _, rfl, rfl, fun w _ => cmp_lt (key_lt2 ([0]) ([0]) hab) w⟩
  · exact ⟨[.string (txt (key name.data.toList [0])), .string (txt (key (otr name).data.toList [1]))], _, rfl, rfl, fun w _ => cmp_lt (key_lt2 ([0]) ([1]) hab) w⟩
  · exact ⟨[.string (txt (key name.data.toList [0])), .string (txt (key name.data.toList (sD elem.data.toList)))], _, rfl, rfl, fun w _ => cmp_lt (key_lt _ (rfl : ltL ([0]) (sD elem.data.toList) = true)) w⟩
  · exact ⟨[.string (txt (key name.data.toList [0])), .string (txt (key (otr name).data.toList (sD elem.data.toList)))], _, rfl, rfl, fun w _ => cmp_lt (key_lt2 ([0]) (sD elem.data.toList) hab) w⟩
  · exact ⟨[.string (txt (key name.data.toList [1])), .string (txt (key (otr name).data.toList [0]))], _, rfl, rfl, fun w _ => cmp_lt (key_lt2 ([1]) ([0]) hab) w⟩
  · exact ⟨[.string (txt (key name.data.toList [1])), .string (txt (key (otr name).data.toList [1]))], _, rfl, rfl, fun w _ => cmp_lt (key_lt2 ([1]) ([1]) hab) w⟩
  · exact ⟨[.string (txt (key name.data.toList [1])), .string (txt (key name.data.toList (sD elem.data.toList)))], _, rfl, rfl, fun w _ => cmp_lt (key_lt _ (rfl : ltL ([1]) (sD elem.data.toList) = true)) w⟩
  · exact ⟨[.string (txt (key name.data.toList [1])), .string (txt (key (otr name).data.toList (sD elem.data.toList)))], _, rfl, rfl, fun w _ => cmp_lt (key_lt2 ([1]) (sD elem.data.toList) hab) w⟩
  · exact ⟨[.string (txt (key (otr name).data.toList [0])), .string (txt (key (otr name).data.toList [1]))], _, rfl, rfl, fun w _ => cmp_lt (key_lt _ (rfl : ltL ([0]) ([1]) = true)) w⟩
  · exact ⟨[.string (txt (key (otr name).data.toList [0])), .string (txt (key (otr name).data.toList (sD elem.data.toList)))], _, rfl, rfl, fun w _ => cmp_lt (key_lt _ (rfl : ltL ([0]) (sD elem.data.toList) = true)) w⟩
  · exact ⟨[.string (txt (key (otr name).data.toList [1])), .string (txt (key (otr name).data.toList (sD elem.data.toList)))], _, rfl, rfl, fun w _ => cmp_lt (key_lt _ (rfl : ltL ([1]) (sD elem.data.toList) = true)) w⟩
  · exact ⟨[.string (txt (key name.data.toList (sD elem.data.toList))), .string (txt (key (otr name).data.toList [0]))], _, rfl, rfl, fun w _ => cmp_lt (key_lt2 (sD elem.data.toList) ([0]) hab) w⟩
  · exact ⟨[.string (txt (key name.data.toList (sD elem.data.toList))), .string (txt (key (otr name).data.toList [1]))], _, rfl, rfl, fun w _ => cmp_lt (key_lt2 (sD elem.data.toList) ([1]) hab) w⟩
  · exact ⟨[.string (txt (key name.data.toList (sD elem.data.toList))), .string (txt (key (otr name).data.toList (sD elem.data.toList)))], _, rfl, rfl, fun w _ => cmp_lt (key_lt2 (sD elem.data.toList) (sD elem.data.toList) hab) w⟩
noncomputable def baseLt : List (FuncId × Con) := [(5, .yes []), (197, .fn (sortFn rowsSort)), (69, .ans rowsClone), (86, .ans rowsText), (288, .ans rowsPart), (117, .fn (patFn rowsBatch)), (171, .fn (rowFn rowsFrame)), (149, .fn (rowFn rowsNT)), (300, .fn (patFn rowsItems)), (261, .ans rowsCmpLt)]
theorem baseLt_ok (hs : Sm name elem value) (hab : ltL name.data.toList (otr name).data.toList = true) {m : Int} (hm : w0.cell? ⟨0, 0, none⟩ = some (.int .i64 m)) : ∀ p ∈ baseLt, ConOK Tryz.prog (OO w0 name elem value) p.1 p.2 := by
  intro p hp
  simp only [baseLt, List.mem_cons, List.mem_nil_iff, or_false] at hp
  rcases hp with rfl | rfl | rfl | rfl | rfl | rfl | rfl | rfl | rfl | rfl
  · exact yes_ok rfl fun w _ => alive_yes w
  · exact conSort_ok
  · exact conClone hs
  · exact conText hs hm
  · exact conPart hs
  · exact conBatch hs
  · exact conFrame hs
  · exact conNT hs
  · exact conItems hs
  · exact conCmpLt hs hab
theorem progLt {cs : List (FuncId × Con)} (hs : Sm name elem value) (hab : ltL name.data.toList (otr name).data.toList = true) (hne : ¬ otr name = name) (K : ∀ p ∈ cs, ConOK Tryz.prog (OO w0 name elem value) p.1 p.2) : ProgOK Tryz.prog (CLt cs (sg name elem value)) (OO w0 name elem value) :=
  withAll_ok (ctx_ok [] K) (fun _ _ _ h => h.σ) (fun _ _ _ _ _ _ _ h => by cases h) (factsOkLt hs hab hne) (ofactsOkLt hs hab hne)
noncomputable def inLt0 : Heap := heapOf [0xc1b00000000000000000000000000000000000000000000000000e300060000000000000001000000070001000200000000000400010002000000000001000000070001000200000000000100000004000100020000000000040001000200000000000400010002000000020000000100010000000100010000000100010001000100010000000000000000000000000000000000a000070000000000000002000200000000000100000004000100020000000000040001000200000000000100000007000100020000000000000000000400010002000000000004000100020001001300020000000200000001000100000001000100000001000000010000000100000001000000010001]
noncomputable def outLt0 : Heap := heapOf [0xf0f00000000000000000000000000000000000000000000000000e300060000000000000001000000070001000200000000000400010002000000000001000000070001000200000000000100000004000100020000000000040001000200000000000400010002000000020000000100010000000100010000000100010001000100010000000000000000000000000000000000a000070000000000000002000200000000000100000004000100020000000000040001000200000000000100000007000100020000000000000000000400010002000000000004000100020001001300020000000200000001000100000001000100000001000000010000000100000001000000010001]
noncomputable def argLt0 : AV := avOf [0x6000100000001000006a00007000100000001000006bd00070000001300010000000300010005000f]
theorem putLt0 (σ0 : Nat → Option Value) : isOuts (runF (CLt baseLt σ0) 100000 299 [argLt0] inLt0) [(.tuple [.symStr 31, .int .i64 0], outLt0)] = true := by kernel_rfl
noncomputable def inLt1 : Heap := heapOf [0x1661000000000000000000000000000000000000000000000000000000a0000700000000000200130002000000000001000000040001000200000000000400010002000000000001000000070001000200000000000000000004000100020000000000040001000200010013000200000002000100010001000100010000000100000001000100000001000100000001000000000000000000000000000000000000000000000000000000e300060000000000000001000000070001000200000000000400010002000000000001000000070001000200000000000100000004000100020000000000040001000200000000000400010002000000020001000100010001000100000001000100010000000100000001000000010001]
noncomputable def outLt1 : Heap := heapOf [0x1955000000000000000000000000000000000000000000000000000000a0000700000000000200130002000000000001000000040001000200000000000400010002000000000001000000070001000200000000000000000004000100020000000000040001000200010013000200000002000100010001000100010000000100000001000100000001000100000001000000000000000000000000000000000000000000000000000000e300060000000000000001000000070001000200000000000400010002000000000001000000070001000200000000000100000004000100020000000000040001000200000000000400010002000000020001000100010001000100000001000100010000000100000001000000010001]
noncomputable def argLt1 : AV := avOf [0x60001000000010000104d00070001000000010000106a00070004001300020000000300010005000f]
theorem putLt1 (σ0 : Nat → Option Value) : isOuts (runF (CLt baseLt σ0) 100000 299 [argLt1] inLt1) [(.tuple [.symStr 32, .int .i64 0], outLt1)] = true := by kernel_rfl
noncomputable def msgsLt : List (List AV × Heap × List (AV × Heap)) := [([.agg [.int .i64 1, .int .i64 1, .int .i64 2, .int .i64 0, .int .i64 1, .symStr 0, .slice 1725 0 1 (.lit 1), .slice 1696 0 1 (.lit 1), .nils, .str [], .str [], .str [], .bool false, .int .i64 0, .nils, .nils, .nils, .nils]], inLt0, [(.symStr 29, outLt0)]), ([.agg [.int .i64 1, .int .i64 1, .int .i64 2, .int .i64 0, .int .i64 2, .symStr 4, .slice 4202 0 1 (.lit 1), .slice 4173 0 1 (.lit 1), .nils, .str [], .str [], .str [], .bool false, .int .i64 0, .nils, .nils, .nils, .nils]], inLt1, [(.symStr 30, outLt1)])]
theorem conMsgLt (hs : Sm name elem value) (hab : ltL name.data.toList (otr name).data.toList = true) (hne : ¬ otr name = name) {m : Int} (hm : w0.cell? ⟨0, 0, none⟩ = some (.int .i64 m)) : ConOK Tryz.prog (OO w0 name elem value) 229 (.known msgsLt) := by
  refine msg_known fun r hr => ?_
  simp only [msgsLt, List.mem_cons, List.mem_nil_iff, or_false] at hr
  rcases hr with rfl | rfl
  · exact ⟨(((1 :: tx [name]) ++ itm elem (txt dot1) ⟨#[]⟩)) ++ cl1, 1, .symStr 0, name, .slice 1725 0 1 (.lit 1), .slice 1696 0 1 (.lit 1), .nils, .symStr 29, .symStr 31, outLt0, sg name elem value, by have := z82 hs; rw [txt_size] at this; omega, rfl, rfl, fun η H w o => ⟨fun _ _ h => (by cases h), fun _ _ h => (by cases h), o.σ⟩, rfl, rfl, rfl, CLt baseLt (sg name elem value), 100000, progLt hs hab hne (baseLt_ok hs hab hm), by rw [← runF_eq]; exact isOuts_eq (putLt0 _)⟩
  · exact ⟨(((2 :: tx [otr name]) ++ itm elem (txt dot1) value)) ++ cl1, 2, .symStr 4, otr name, .slice 4202 0 1 (.lit 1), .slice 4173 0 1 (.lit 1), .nils, .symStr 30, .symStr 32, outLt1, sg name elem value, by have := z83 hs; rw [txt_size] at this; omega, rfl, rfl, fun η H w o => ⟨fun _ _ h => (by cases h), fun _ _ h => (by cases h), o.σ⟩, rfl, rfl, rfl, CLt baseLt (sg name elem value), 100000, progLt hs hab hne (baseLt_ok hs hab hm), by rw [← runF_eq]; exact isOuts_eq (putLt1 _)⟩
noncomputable def consLt : List (FuncId × Con) := (229, .known msgsLt) :: baseLt
theorem consLt_ok (hs : Sm name elem value) (hab : ltL name.data.toList (otr name).data.toList = true) (hne : ¬ otr name = name) {m : Int} (hm : w0.cell? ⟨0, 0, none⟩ = some (.int .i64 m)) : ∀ p ∈ consLt, ConOK Tryz.prog (OO w0 name elem value) p.1 p.2 := by
  unfold consLt
  exact List.forall_mem_cons.2 ⟨conMsgLt hs hab hne hm, baseLt_ok hs hab hm⟩
end
end Go.Proofs.YtckjnglhbjiklaaGreatDoor.Wk
