/-
  NARROWER THAN 'FOR EVERY INPUT', by the rows' own cells (each row's printed sentence says how): ManiAnew: laid · ManiNone: laid · ManiSpoilt: laid · ManiWhole: laid · ManiPlays: laid.
  DERIVED. THE GIVEN ROWS OF THIS SEAT. 5 by the template 'for every input the law returns true; each argument reads behind the call as it read before'; 0 by the template 'total and deterministic' (their statements: YtdpjmgaenpaefaaGreatDoorTotals.lean).
  GIVEN WITH THE SEED: the statements are not yours to turn. If you find one false, say at which input.
  Laid BY PROGRAM, IN A SANDBOX (cutbox-rows.mjs): the forced cells as the released guide's own fill.sh prints them over the translation 73bc6d1dac1605e2… (all of the seat's roots in one cut). By AI agents, Wed Nov 11 2026. No macro, syntax, notation, axiom, sorry.
-/
import Derived.Test.YtdpjmgaenpaefaaGreatDoorChecked
import GoSem.PinnedTables
import GoSem.Claim
import GoSem.ClaimJoined
import GoSem.ClaimMapViews
import Derived.JoinedTies
import Derived.KernelRfl
namespace Go.Proofs.YtdpjmgaenpaefaaGreatDoor
/- THE CELL 'sum', in the pinned program and in every row, IS THE sha256 OF THE DUMP (.gsa) THAT YtdpjmgaenpaefaaGreatDoorProg.lean LOADS. Nothing in Lean hashes anything: it is a label: what it is worth is what the hold of that sum in a sandbox is worth. -/
noncomputable def Tryz.pinned : Pinned := { name := "ytdpjmgaenpaefaagreatdoor", sum := "73bc6d1dac1605e27f1d4d1ab20187890ccd58ddf6ec1295aab16fcbfffb2189", checked := Tryz.checked }
namespace Rows
def none {H : Type} : Left H := { results := [], args := [] }

/- WHAT THE LISTED PACKAGE-LEVEL VARIABLES READ AS WHEN THE CALL BEGINS. Each datum BY PROGRAM (the guide's laid-datum.mjs) off the statement by which the dump's own 'gosem.cut.vars' lays the variable. In a bare row this is a premise. The card (YtdpjmgaenpaefaaGreatDoorCards.lean) ties it to the program's text. -/
def laid_unicode_utf8_acceptRanges {H : Type} : DataW H := .agg [.agg [.lit (.int .u8 128), .lit (.int .u8 191)], .agg [.lit (.int .u8 160), .lit (.int .u8 191)], .agg [.lit (.int .u8 128), .lit (.int .u8 159)], .agg [.lit (.int .u8 144), .lit (.int .u8 191)], .agg [.lit (.int .u8 128), .lit (.int .u8 143)], .agg [.lit (.int .u8 0), .lit (.int .u8 0)], .agg [.lit (.int .u8 0), .lit (.int .u8 0)], .agg [.lit (.int .u8 0), .lit (.int .u8 0)], .agg [.lit (.int .u8 0), .lit (.int .u8 0)], .agg [.lit (.int .u8 0), .lit (.int .u8 0)], .agg [.lit (.int .u8 0), .lit (.int .u8 0)], .agg [.lit (.int .u8 0), .lit (.int .u8 0)], .agg [.lit (.int .u8 0), .lit (.int .u8 0)], .agg [.lit (.int .u8 0), .lit (.int .u8 0)], .agg [.lit (.int .u8 0), .lit (.int .u8 0)], .agg [.lit (.int .u8 0), .lit (.int .u8 0)]]
/-- One of Go's own tables, pinned by name: the form's constant. -/
def laid_unicode_utf8_first : DataW Unit := Go.Pinned.utf8First

/-- 'cornucopialaw13.ManiAnew': WHATEVER THE INPUT: true; the input reads as it did. -/
def maniAnewSpec : ChangeSpec := { name := "maniAnew", fn := fun _ => fun
  | [d1, d2] => { results := [.lit (.bool true)], args := [d1, d2] }
  | _ => none }
def maniAnewRow : OpenClaim := { program := "ytdpjmgaenpaefaagreatdoor", sum := "73bc6d1dac1605e27f1d4d1ab20187890ccd58ddf6ec1295aab16fcbfffb2189", func := "cornucopia/cornucopialaw13.ManiAnew", spec := "maniAnew", inPlace := ["internal/abi.NoEscape", "internal/bytealg.MakeNoZero", "maps.clone", "internal/bytealg.IndexByteString", "internal/bytealg.IndexString", "internal/bytealg.abigen_runtime_cmpstring"], unfollowed := true, recurses := true, named := ["unicode/utf8.first", "unicode/utf8.acceptRanges", "internal/bytealg.MaxLen"], apart := false, laid := [("unicode/utf8.acceptRanges", laid_unicode_utf8_acceptRanges), ("unicode/utf8.first", laid_unicode_utf8_first)] }
def ManiAnewSaid : Prop := maniAnewRow.holds Tryz.pinned (OpenSpec.ofChange maniAnewSpec)

/-- ITS FALSE NEIGHBOUR: 'it returns false'. Refute it at one input. -/
def maniAnewWrong : ChangeSpec := { name := "maniAnew", fn := fun _ => fun
  | [d1, d2] => { results := [.lit (.bool false)], args := [d1, d2] }
  | _ => none }
def ManiAnewWrongFalsely : Prop := maniAnewRow.holds Tryz.pinned (OpenSpec.ofChange maniAnewWrong)

/-- 'cornucopialaw13.ManiNone': WHATEVER THE INPUT: true; the input reads as it did. -/
def maniNoneSpec : ChangeSpec := { name := "maniNone", fn := fun _ => fun
  | [d] => { results := [.lit (.bool true)], args := [d] }
  | _ => none }
def maniNoneRow : OpenClaim := { program := "ytdpjmgaenpaefaagreatdoor", sum := "73bc6d1dac1605e27f1d4d1ab20187890ccd58ddf6ec1295aab16fcbfffb2189", func := "cornucopia/cornucopialaw13.ManiNone", spec := "maniNone", inPlace := ["internal/abi.NoEscape", "internal/bytealg.MakeNoZero", "maps.clone", "internal/bytealg.IndexByteString", "internal/bytealg.IndexString", "internal/bytealg.abigen_runtime_cmpstring"], unfollowed := true, recurses := true, named := ["unicode/utf8.first", "unicode/utf8.acceptRanges", "internal/bytealg.MaxLen"], apart := false, laid := [("unicode/utf8.acceptRanges", laid_unicode_utf8_acceptRanges), ("unicode/utf8.first", laid_unicode_utf8_first)] }
def ManiNoneSaid : Prop := maniNoneRow.holds Tryz.pinned (OpenSpec.ofChange maniNoneSpec)

/-- ITS FALSE NEIGHBOUR: 'it returns false'. Refute it at one input. -/
def maniNoneWrong : ChangeSpec := { name := "maniNone", fn := fun _ => fun
  | [d] => { results := [.lit (.bool false)], args := [d] }
  | _ => none }
def ManiNoneWrongFalsely : Prop := maniNoneRow.holds Tryz.pinned (OpenSpec.ofChange maniNoneWrong)

/-- 'cornucopialaw13.ManiSpoilt': WHATEVER THE INPUT: true; the input reads as it did. -/
def maniSpoiltSpec : ChangeSpec := { name := "maniSpoilt", fn := fun _ => fun
  | [d1, d2, d3] => { results := [.lit (.bool true)], args := [d1, d2, d3] }
  | _ => none }
def maniSpoiltRow : OpenClaim := { program := "ytdpjmgaenpaefaagreatdoor", sum := "73bc6d1dac1605e27f1d4d1ab20187890ccd58ddf6ec1295aab16fcbfffb2189", func := "cornucopia/cornucopialaw13.ManiSpoilt", spec := "maniSpoilt", inPlace := ["internal/abi.NoEscape", "internal/bytealg.MakeNoZero", "maps.clone", "internal/bytealg.IndexByteString", "internal/bytealg.IndexString", "internal/bytealg.abigen_runtime_cmpstring"], unfollowed := true, recurses := true, named := ["unicode/utf8.first", "unicode/utf8.acceptRanges", "internal/bytealg.MaxLen"], apart := false, laid := [("unicode/utf8.acceptRanges", laid_unicode_utf8_acceptRanges), ("unicode/utf8.first", laid_unicode_utf8_first)] }
def ManiSpoiltSaid : Prop := maniSpoiltRow.holds Tryz.pinned (OpenSpec.ofChange maniSpoiltSpec)

/-- ITS FALSE NEIGHBOUR: 'it returns false'. Refute it at one input. -/
def maniSpoiltWrong : ChangeSpec := { name := "maniSpoilt", fn := fun _ => fun
  | [d1, d2, d3] => { results := [.lit (.bool false)], args := [d1, d2, d3] }
  | _ => none }
def ManiSpoiltWrongFalsely : Prop := maniSpoiltRow.holds Tryz.pinned (OpenSpec.ofChange maniSpoiltWrong)

/-- 'cornucopialaw13.ManiWhole': WHATEVER THE INPUT: true; the input reads as it did. -/
def maniWholeSpec : ChangeSpec := { name := "maniWhole", fn := fun _ => fun
  | [d1, d2, d3, d4, d5, d6, d7] => { results := [.lit (.bool true)], args := [d1, d2, d3, d4, d5, d6, d7] }
  | _ => none }
def maniWholeRow : OpenClaim := { program := "ytdpjmgaenpaefaagreatdoor", sum := "73bc6d1dac1605e27f1d4d1ab20187890ccd58ddf6ec1295aab16fcbfffb2189", func := "cornucopia/cornucopialaw13.ManiWhole", spec := "maniWhole", inPlace := ["internal/abi.NoEscape", "internal/bytealg.MakeNoZero", "maps.clone", "internal/bytealg.IndexByteString", "internal/bytealg.IndexString", "internal/bytealg.abigen_runtime_cmpstring"], unfollowed := true, recurses := true, named := ["unicode/utf8.first", "unicode/utf8.acceptRanges", "internal/bytealg.MaxLen"], apart := false, laid := [("unicode/utf8.acceptRanges", laid_unicode_utf8_acceptRanges), ("unicode/utf8.first", laid_unicode_utf8_first)] }
def ManiWholeSaid : Prop := maniWholeRow.holds Tryz.pinned (OpenSpec.ofChange maniWholeSpec)

/-- ITS FALSE NEIGHBOUR: 'it returns false'. Refute it at one input. -/
def maniWholeWrong : ChangeSpec := { name := "maniWhole", fn := fun _ => fun
  | [d1, d2, d3, d4, d5, d6, d7] => { results := [.lit (.bool false)], args := [d1, d2, d3, d4, d5, d6, d7] }
  | _ => none }
def ManiWholeWrongFalsely : Prop := maniWholeRow.holds Tryz.pinned (OpenSpec.ofChange maniWholeWrong)

/-- 'cornucopialaw13.ManiPlays': WHATEVER THE INPUT: true; the input reads as it did. -/
def maniPlaysSpec : ChangeSpec := { name := "maniPlays", fn := fun _ => fun
  | [d1, d2] => { results := [.lit (.bool true)], args := [d1, d2] }
  | _ => none }
def maniPlaysRow : OpenClaim := { program := "ytdpjmgaenpaefaagreatdoor", sum := "73bc6d1dac1605e27f1d4d1ab20187890ccd58ddf6ec1295aab16fcbfffb2189", func := "cornucopia/cornucopialaw13.ManiPlays", spec := "maniPlays", inPlace := ["internal/abi.NoEscape", "internal/bytealg.MakeNoZero", "maps.clone", "internal/bytealg.IndexByteString", "internal/bytealg.IndexString", "internal/bytealg.abigen_runtime_cmpstring"], unfollowed := true, recurses := true, named := ["unicode/utf8.first", "unicode/utf8.acceptRanges", "internal/bytealg.MaxLen"], apart := false, laid := [("unicode/utf8.acceptRanges", laid_unicode_utf8_acceptRanges), ("unicode/utf8.first", laid_unicode_utf8_first)] }
def ManiPlaysSaid : Prop := maniPlaysRow.holds Tryz.pinned (OpenSpec.ofChange maniPlaysSpec)

/-- ITS FALSE NEIGHBOUR: 'it returns false'. Refute it at one input. -/
def maniPlaysWrong : ChangeSpec := { name := "maniPlays", fn := fun _ => fun
  | [d1, d2] => { results := [.lit (.bool false)], args := [d1, d2] }
  | _ => none }
def ManiPlaysWrongFalsely : Prop := maniPlaysRow.holds Tryz.pinned (OpenSpec.ofChange maniPlaysWrong)

/- THE SECOND FORM. 'bulk': how many values and letters a reading holds, each counted each time it is reached (what is shared counts as often as it is met; a slice's spare places count too). A statement '..UptoSaid' is the law's where the arguments, and the package variables that the reading takes, are together of bulk at most 1048576: NARROWER than '..Said'. Prove '..Said' where nothing that the law and all that it calls make is longer than what came in: it says more and counts as full. Else prove '..UptoSaid'. A law counts once. -/
mutual
def uptoBulk {H : Type} : DataW H → Nat
  | .lit (.string bytes) => bytes.length + 1
  | .lit _ => 1
  | .nil => 1
  | .ptr d => uptoBulk d + 1
  | .slice elems spare => uptoBulkAll elems + uptoBulkAll spare + 1
  | .agg parts => uptoBulkAll parts + 1
  | .iface _ d => uptoBulk d + 1
  | .map entries => uptoBulkEntries entries + 1
  | .held _ => 1
def uptoBulkAll {H : Type} : List (DataW H) → Nat
  | [] => 0
  | d :: r => uptoBulk d + uptoBulkAll r
def uptoBulkEntries {H : Type} : List (Lit × DataW H) → Nat
  | [] => 0
  | x :: r => uptoBulkEntry x + uptoBulkEntries r
def uptoBulkEntry {H : Type} : Lit × DataW H → Nat
  | (.string bytes, d) => bytes.length + uptoBulk d + 1
  | (_, d) => uptoBulk d + 1
 end
def uptoSmall : (H : Type) → List (DataW H) → Bool := fun _ ds => decide (uptoBulkAll ds ≤ 1048576)
def OpenSpec.upto (s : _root_.Go.ChangeSpec) : _root_.Go.OpenSpec := { _root_.Go.OpenSpec.ofChange s with cond := some uptoSmall }

/-- 'cornucopialaw13.ManiAnew', WHERE WHAT IT READS IS OF BULK AT MOST 1048576: true; the input reads as it did. -/
def maniAnewUptoRow : OpenClaim := { program := "ytdpjmgaenpaefaagreatdoor", sum := "73bc6d1dac1605e27f1d4d1ab20187890ccd58ddf6ec1295aab16fcbfffb2189", func := "cornucopia/cornucopialaw13.ManiAnew", spec := "maniAnew", inPlace := ["internal/abi.NoEscape", "internal/bytealg.MakeNoZero", "maps.clone", "internal/bytealg.IndexByteString", "internal/bytealg.IndexString", "internal/bytealg.abigen_runtime_cmpstring"], unfollowed := true, recurses := true, named := ["unicode/utf8.first", "unicode/utf8.acceptRanges", "internal/bytealg.MaxLen"], apart := false, laid := [("unicode/utf8.acceptRanges", laid_unicode_utf8_acceptRanges), ("unicode/utf8.first", laid_unicode_utf8_first)], narrowed := true }
def ManiAnewUptoSaid : Prop := maniAnewUptoRow.holds Tryz.pinned (OpenSpec.upto maniAnewSpec)

/-- 'cornucopialaw13.ManiNone', WHERE WHAT IT READS IS OF BULK AT MOST 1048576: true; the input reads as it did. -/
def maniNoneUptoRow : OpenClaim := { program := "ytdpjmgaenpaefaagreatdoor", sum := "73bc6d1dac1605e27f1d4d1ab20187890ccd58ddf6ec1295aab16fcbfffb2189", func := "cornucopia/cornucopialaw13.ManiNone", spec := "maniNone", inPlace := ["internal/abi.NoEscape", "internal/bytealg.MakeNoZero", "maps.clone", "internal/bytealg.IndexByteString", "internal/bytealg.IndexString", "internal/bytealg.abigen_runtime_cmpstring"], unfollowed := true, recurses := true, named := ["unicode/utf8.first", "unicode/utf8.acceptRanges", "internal/bytealg.MaxLen"], apart := false, laid := [("unicode/utf8.acceptRanges", laid_unicode_utf8_acceptRanges), ("unicode/utf8.first", laid_unicode_utf8_first)], narrowed := true }
def ManiNoneUptoSaid : Prop := maniNoneUptoRow.holds Tryz.pinned (OpenSpec.upto maniNoneSpec)

/-- 'cornucopialaw13.ManiSpoilt', WHERE WHAT IT READS IS OF BULK AT MOST 1048576: true; the input reads as it did. -/
def maniSpoiltUptoRow : OpenClaim := { program := "ytdpjmgaenpaefaagreatdoor", sum := "73bc6d1dac1605e27f1d4d1ab20187890ccd58ddf6ec1295aab16fcbfffb2189", func := "cornucopia/cornucopialaw13.ManiSpoilt", spec := "maniSpoilt", inPlace := ["internal/abi.NoEscape", "internal/bytealg.MakeNoZero", "maps.clone", "internal/bytealg.IndexByteString", "internal/bytealg.IndexString", "internal/bytealg.abigen_runtime_cmpstring"], unfollowed := true, recurses := true, named := ["unicode/utf8.first", "unicode/utf8.acceptRanges", "internal/bytealg.MaxLen"], apart := false, laid := [("unicode/utf8.acceptRanges", laid_unicode_utf8_acceptRanges), ("unicode/utf8.first", laid_unicode_utf8_first)], narrowed := true }
def ManiSpoiltUptoSaid : Prop := maniSpoiltUptoRow.holds Tryz.pinned (OpenSpec.upto maniSpoiltSpec)

/-- 'cornucopialaw13.ManiWhole', WHERE WHAT IT READS IS OF BULK AT MOST 1048576: true; the input reads as it did. -/
def maniWholeUptoRow : OpenClaim := { program := "ytdpjmgaenpaefaagreatdoor", sum := "73bc6d1dac1605e27f1d4d1ab20187890ccd58ddf6ec1295aab16fcbfffb2189", func := "cornucopia/cornucopialaw13.ManiWhole", spec := "maniWhole", inPlace := ["internal/abi.NoEscape", "internal/bytealg.MakeNoZero", "maps.clone", "internal/bytealg.IndexByteString", "internal/bytealg.IndexString", "internal/bytealg.abigen_runtime_cmpstring"], unfollowed := true, recurses := true, named := ["unicode/utf8.first", "unicode/utf8.acceptRanges", "internal/bytealg.MaxLen"], apart := false, laid := [("unicode/utf8.acceptRanges", laid_unicode_utf8_acceptRanges), ("unicode/utf8.first", laid_unicode_utf8_first)], narrowed := true }
def ManiWholeUptoSaid : Prop := maniWholeUptoRow.holds Tryz.pinned (OpenSpec.upto maniWholeSpec)

/-- 'cornucopialaw13.ManiPlays', WHERE WHAT IT READS IS OF BULK AT MOST 1048576: true; the input reads as it did. -/
def maniPlaysUptoRow : OpenClaim := { program := "ytdpjmgaenpaefaagreatdoor", sum := "73bc6d1dac1605e27f1d4d1ab20187890ccd58ddf6ec1295aab16fcbfffb2189", func := "cornucopia/cornucopialaw13.ManiPlays", spec := "maniPlays", inPlace := ["internal/abi.NoEscape", "internal/bytealg.MakeNoZero", "maps.clone", "internal/bytealg.IndexByteString", "internal/bytealg.IndexString", "internal/bytealg.abigen_runtime_cmpstring"], unfollowed := true, recurses := true, named := ["unicode/utf8.first", "unicode/utf8.acceptRanges", "internal/bytealg.MaxLen"], apart := false, laid := [("unicode/utf8.acceptRanges", laid_unicode_utf8_acceptRanges), ("unicode/utf8.first", laid_unicode_utf8_first)], narrowed := true }
def ManiPlaysUptoSaid : Prop := maniPlaysUptoRow.holds Tryz.pinned (OpenSpec.upto maniPlaysSpec)

end Rows
end Go.Proofs.YtdpjmgaenpaefaaGreatDoor
