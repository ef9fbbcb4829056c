/-
  NARROWER THAN 'FOR EVERY INPUT', by the rows' own cells (each row's printed sentence says how): UpdatesCode: laid · TopChanged: laid · UpdatesServe: laid · SubscribersFlip: laid · TopUnits: laid · SubscribersReplay: laid · TopSharedSums: laid.
  DERIVED. THE GIVEN ROWS OF THIS SEAT. 7 by the template 'for every input the law returns true; each argument reads behind the call as it read before'; 0 by the template 'total and deterministic' (their statements: YthbbmpelldglmaaDoorTotals.lean).
  GIVEN WITH THE SEED: the statements are not yours to turn. If you find one false, say at which input.
  Laid BY PROGRAM, IN A SANDBOX (cutbox-rows.mjs): the forced cells as the released guide's own fill.sh prints them over the translation cdeb1ad1f6fde694… (all of the seat's roots in one cut). By AI agents, Wed Nov 11 2026. No macro, syntax, notation, axiom, sorry.
-/
import Derived.Test.YthbbmpelldglmaaDoorChecked
import GoSem.PinnedTables
import GoSem.Claim
import GoSem.ClaimJoined
import GoSem.ClaimMapViews
import Derived.JoinedTies
import Derived.KernelRfl
namespace Go.Proofs.YthbbmpelldglmaaDoor
/- THE CELL 'sum', in the pinned program and in every row, IS THE sha256 OF THE DUMP (.gsa) THAT YthbbmpelldglmaaDoorProg.lean LOADS. Nothing in Lean hashes anything: it is a label: what it is worth is what the hold of that sum in a sandbox is worth. -/
noncomputable def Tryd.pinned : Pinned := { name := "ythbbmpelldglmaadoor", sum := "cdeb1ad1f6fde69471a76bd25f40b6223206179f3a2fee380608b1ab902ad204", checked := Tryd.checked }
namespace Rows
def none {H : Type} : Left H := { results := [], args := [] }

/- WHAT THE LISTED PACKAGE-LEVEL VARIABLES READ AS WHEN THE CALL BEGINS. Each datum BY PROGRAM (the guide's laid-datum.mjs) off the statement by which the dump's own 'gosem.cut.vars' lays the variable. In a bare row this is a premise. The card (YthbbmpelldglmaaDoorCards.lean) ties it to the program's text. -/
def laid_unicode_utf8_acceptRanges {H : Type} : DataW H := .agg [.agg [.lit (.int .u8 128), .lit (.int .u8 191)], .agg [.lit (.int .u8 160), .lit (.int .u8 191)], .agg [.lit (.int .u8 128), .lit (.int .u8 159)], .agg [.lit (.int .u8 144), .lit (.int .u8 191)], .agg [.lit (.int .u8 128), .lit (.int .u8 143)], .agg [.lit (.int .u8 0), .lit (.int .u8 0)], .agg [.lit (.int .u8 0), .lit (.int .u8 0)], .agg [.lit (.int .u8 0), .lit (.int .u8 0)], .agg [.lit (.int .u8 0), .lit (.int .u8 0)], .agg [.lit (.int .u8 0), .lit (.int .u8 0)], .agg [.lit (.int .u8 0), .lit (.int .u8 0)], .agg [.lit (.int .u8 0), .lit (.int .u8 0)], .agg [.lit (.int .u8 0), .lit (.int .u8 0)], .agg [.lit (.int .u8 0), .lit (.int .u8 0)], .agg [.lit (.int .u8 0), .lit (.int .u8 0)], .agg [.lit (.int .u8 0), .lit (.int .u8 0)]]
/-- One of Go's own tables, pinned by name: the form's constant. -/
def laid_unicode_utf8_first : DataW Unit := Go.Pinned.utf8First
def laid_pointcode_frames_flag {H : Type} : DataW H := .agg [.lit (.int .u8 0), .lit (.int .u8 1), .lit (.int .u8 1), .lit (.int .u8 1), .lit (.int .u8 1), .lit (.int .u8 1), .lit (.int .u8 1), .lit (.int .u8 0)]

/-- 'pointcodelaw39.UpdatesCode': WHATEVER THE INPUT: true; the input reads as it did. -/
def updatesCodeSpec : ChangeSpec := { name := "updatesCode", fn := fun _ => fun
  | [d1, d2] => { results := [.lit (.bool true)], args := [d1, d2] }
  | _ => none }
def updatesCodeRow : OpenClaim := { program := "ythbbmpelldglmaadoor", sum := "cdeb1ad1f6fde69471a76bd25f40b6223206179f3a2fee380608b1ab902ad204", func := "pointcode/pointcodelaw39.UpdatesCode", spec := "updatesCode", inPlace := ["internal/bytealg.IndexByteString", "internal/bytealg.IndexString", "internal/abi.NoEscape"], unfollowed := true, recurses := true, named := ["unicode/utf8.first", "unicode/utf8.acceptRanges", "internal/bytealg.MaxLen"], apart := false, laid := [("unicode/utf8.acceptRanges", laid_unicode_utf8_acceptRanges), ("unicode/utf8.first", laid_unicode_utf8_first)] }
def UpdatesCodeSaid : Prop := updatesCodeRow.holds Tryd.pinned (OpenSpec.ofChange updatesCodeSpec)

/-- ITS FALSE NEIGHBOUR: 'it returns false'. Refute it at one input. -/
def updatesCodeWrong : ChangeSpec := { name := "updatesCode", fn := fun _ => fun
  | [d1, d2] => { results := [.lit (.bool false)], args := [d1, d2] }
  | _ => none }
def UpdatesCodeWrongFalsely : Prop := updatesCodeRow.holds Tryd.pinned (OpenSpec.ofChange updatesCodeWrong)

/-- 'pointcodetop.TopChanged': WHATEVER THE INPUT: true; the input reads as it did. -/
def topChangedSpec : ChangeSpec := { name := "topChanged", fn := fun _ => fun
  | [d1, d2, d3] => { results := [.lit (.bool true)], args := [d1, d2, d3] }
  | _ => none }
def topChangedRow : OpenClaim := { program := "ythbbmpelldglmaadoor", sum := "cdeb1ad1f6fde69471a76bd25f40b6223206179f3a2fee380608b1ab902ad204", func := "pointcode/pointcodetop.TopChanged", spec := "topChanged", unfollowed := true, recurses := true, named := ["pointcode/frames.flag"], apart := false, laid := [("pointcode/frames.flag", laid_pointcode_frames_flag)] }
def TopChangedSaid : Prop := topChangedRow.holds Tryd.pinned (OpenSpec.ofChange topChangedSpec)

/-- ITS FALSE NEIGHBOUR: 'it returns false'. Refute it at one input. -/
def topChangedWrong : ChangeSpec := { name := "topChanged", fn := fun _ => fun
  | [d1, d2, d3] => { results := [.lit (.bool false)], args := [d1, d2, d3] }
  | _ => none }
def TopChangedWrongFalsely : Prop := topChangedRow.holds Tryd.pinned (OpenSpec.ofChange topChangedWrong)

/-- 'pointcodelaw39.UpdatesServe': WHATEVER THE INPUT: true; the input reads as it did. -/
def updatesServeSpec : ChangeSpec := { name := "updatesServe", fn := fun _ => fun
  | [d1, d2, d3] => { results := [.lit (.bool true)], args := [d1, d2, d3] }
  | _ => none }
def updatesServeRow : OpenClaim := { program := "ythbbmpelldglmaadoor", sum := "cdeb1ad1f6fde69471a76bd25f40b6223206179f3a2fee380608b1ab902ad204", func := "pointcode/pointcodelaw39.UpdatesServe", spec := "updatesServe", inPlace := ["internal/bytealg.IndexByteString", "internal/bytealg.IndexString", "internal/abi.NoEscape"], unfollowed := true, recurses := true, named := ["unicode/utf8.first", "unicode/utf8.acceptRanges", "internal/bytealg.MaxLen"], apart := false, laid := [("unicode/utf8.acceptRanges", laid_unicode_utf8_acceptRanges), ("unicode/utf8.first", laid_unicode_utf8_first)] }
def UpdatesServeSaid : Prop := updatesServeRow.holds Tryd.pinned (OpenSpec.ofChange updatesServeSpec)

/-- ITS FALSE NEIGHBOUR: 'it returns false'. Refute it at one input. -/
def updatesServeWrong : ChangeSpec := { name := "updatesServe", fn := fun _ => fun
  | [d1, d2, d3] => { results := [.lit (.bool false)], args := [d1, d2, d3] }
  | _ => none }
def UpdatesServeWrongFalsely : Prop := updatesServeRow.holds Tryd.pinned (OpenSpec.ofChange updatesServeWrong)

/-- 'pointcodelaw38.SubscribersFlip': WHATEVER THE INPUT: true; the input reads as it did. -/
def subscribersFlipSpec : ChangeSpec := { name := "subscribersFlip", fn := fun _ => fun
  | [d1, d2] => { results := [.lit (.bool true)], args := [d1, d2] }
  | _ => none }
def subscribersFlipRow : OpenClaim := { program := "ythbbmpelldglmaadoor", sum := "cdeb1ad1f6fde69471a76bd25f40b6223206179f3a2fee380608b1ab902ad204", func := "pointcode/pointcodelaw38.SubscribersFlip", spec := "subscribersFlip", inPlace := ["internal/bytealg.IndexByteString", "internal/bytealg.IndexString", "internal/bytealg.abigen_runtime_cmpstring"], unfollowed := true, recurses := true, named := ["unicode/utf8.first", "unicode/utf8.acceptRanges", "internal/bytealg.MaxLen"], apart := false, laid := [("unicode/utf8.acceptRanges", laid_unicode_utf8_acceptRanges), ("unicode/utf8.first", laid_unicode_utf8_first)] }
def SubscribersFlipSaid : Prop := subscribersFlipRow.holds Tryd.pinned (OpenSpec.ofChange subscribersFlipSpec)

/-- ITS FALSE NEIGHBOUR: 'it returns false'. Refute it at one input. -/
def subscribersFlipWrong : ChangeSpec := { name := "subscribersFlip", fn := fun _ => fun
  | [d1, d2] => { results := [.lit (.bool false)], args := [d1, d2] }
  | _ => none }
def SubscribersFlipWrongFalsely : Prop := subscribersFlipRow.holds Tryd.pinned (OpenSpec.ofChange subscribersFlipWrong)

/-- 'pointcodetop.TopUnits': WHATEVER THE INPUT: true; the input reads as it did. -/
def topUnitsSpec : ChangeSpec := { name := "topUnits", fn := fun _ => fun
  | [d1, d2, d3] => { results := [.lit (.bool true)], args := [d1, d2, d3] }
  | _ => none }
def topUnitsRow : OpenClaim := { program := "ythbbmpelldglmaadoor", sum := "cdeb1ad1f6fde69471a76bd25f40b6223206179f3a2fee380608b1ab902ad204", func := "pointcode/pointcodetop.TopUnits", spec := "topUnits", unfollowed := true, recurses := true, named := ["pointcode/frames.flag"], apart := false, laid := [("pointcode/frames.flag", laid_pointcode_frames_flag)] }
def TopUnitsSaid : Prop := topUnitsRow.holds Tryd.pinned (OpenSpec.ofChange topUnitsSpec)

/-- ITS FALSE NEIGHBOUR: 'it returns false'. Refute it at one input. -/
def topUnitsWrong : ChangeSpec := { name := "topUnits", fn := fun _ => fun
  | [d1, d2, d3] => { results := [.lit (.bool false)], args := [d1, d2, d3] }
  | _ => none }
def TopUnitsWrongFalsely : Prop := topUnitsRow.holds Tryd.pinned (OpenSpec.ofChange topUnitsWrong)

/-- 'pointcodelaw38.SubscribersReplay': WHATEVER THE INPUT: true; the input reads as it did. -/
def subscribersReplaySpec : ChangeSpec := { name := "subscribersReplay", fn := fun _ => fun
  | [d1, d2] => { results := [.lit (.bool true)], args := [d1, d2] }
  | _ => none }
def subscribersReplayRow : OpenClaim := { program := "ythbbmpelldglmaadoor", sum := "cdeb1ad1f6fde69471a76bd25f40b6223206179f3a2fee380608b1ab902ad204", func := "pointcode/pointcodelaw38.SubscribersReplay", spec := "subscribersReplay", inPlace := ["internal/bytealg.IndexByteString", "internal/bytealg.IndexString", "internal/bytealg.abigen_runtime_cmpstring"], unfollowed := true, recurses := true, named := ["unicode/utf8.first", "unicode/utf8.acceptRanges", "internal/bytealg.MaxLen"], apart := false, laid := [("unicode/utf8.acceptRanges", laid_unicode_utf8_acceptRanges), ("unicode/utf8.first", laid_unicode_utf8_first)] }
def SubscribersReplaySaid : Prop := subscribersReplayRow.holds Tryd.pinned (OpenSpec.ofChange subscribersReplaySpec)

/-- ITS FALSE NEIGHBOUR: 'it returns false'. Refute it at one input. -/
def subscribersReplayWrong : ChangeSpec := { name := "subscribersReplay", fn := fun _ => fun
  | [d1, d2] => { results := [.lit (.bool false)], args := [d1, d2] }
  | _ => none }
def SubscribersReplayWrongFalsely : Prop := subscribersReplayRow.holds Tryd.pinned (OpenSpec.ofChange subscribersReplayWrong)

/-- 'pointcodetop.TopSharedSums': WHATEVER THE INPUT: true; the input reads as it did. -/
def topSharedSumsSpec : ChangeSpec := { name := "topSharedSums", fn := fun _ => fun
  | [d] => { results := [.lit (.bool true)], args := [d] }
  | _ => none }
def topSharedSumsRow : OpenClaim := { program := "ythbbmpelldglmaadoor", sum := "cdeb1ad1f6fde69471a76bd25f40b6223206179f3a2fee380608b1ab902ad204", func := "pointcode/pointcodetop.TopSharedSums", spec := "topSharedSums", inPlace := ["internal/bytealg.IndexByteString", "internal/bytealg.IndexString"], unfollowed := true, recurses := true, named := ["unicode/utf8.first", "unicode/utf8.acceptRanges", "internal/bytealg.MaxLen"], apart := false, laid := [("unicode/utf8.acceptRanges", laid_unicode_utf8_acceptRanges), ("unicode/utf8.first", laid_unicode_utf8_first)] }
def TopSharedSumsSaid : Prop := topSharedSumsRow.holds Tryd.pinned (OpenSpec.ofChange topSharedSumsSpec)

/-- ITS FALSE NEIGHBOUR: 'it returns false'. Refute it at one input. -/
def topSharedSumsWrong : ChangeSpec := { name := "topSharedSums", fn := fun _ => fun
  | [d] => { results := [.lit (.bool false)], args := [d] }
  | _ => none }
def TopSharedSumsWrongFalsely : Prop := topSharedSumsRow.holds Tryd.pinned (OpenSpec.ofChange topSharedSumsWrong)

/- THE SECOND FORM. 'bulk': how many values and letters a reading holds, each counted each time it is reached (what is shared counts as often as it is met; a slice's spare places count too). A statement '..UptoSaid' is the law's where the arguments, and the package variables that the reading takes, are together of bulk at most 1048576: NARROWER than '..Said'. Prove '..Said' where nothing that the law and all that it calls make is longer than what came in: it says more and counts as full. Else prove '..UptoSaid'. A law counts once. -/
mutual
def uptoBulk {H : Type} : DataW H → Nat
  | .lit (.string bytes) => bytes.length + 1
  | .lit _ => 1
  | .nil => 1
  | .ptr d => uptoBulk d + 1
  | .slice elems spare => uptoBulkAll elems + uptoBulkAll spare + 1
  | .agg parts => uptoBulkAll parts + 1
  | .iface _ d => uptoBulk d + 1
  | .map entries => uptoBulkEntries entries + 1
  | .held _ => 1
def uptoBulkAll {H : Type} : List (DataW H) → Nat
  | [] => 0
  | d :: r => uptoBulk d + uptoBulkAll r
def uptoBulkEntries {H : Type} : List (Lit × DataW H) → Nat
  | [] => 0
  | x :: r => uptoBulkEntry x + uptoBulkEntries r
def uptoBulkEntry {H : Type} : Lit × DataW H → Nat
  | (.string bytes, d) => bytes.length + uptoBulk d + 1
  | (_, d) => uptoBulk d + 1
 end
def uptoSmall : (H : Type) → List (DataW H) → Bool := fun _ ds => decide (uptoBulkAll ds ≤ 1048576)
def OpenSpec.upto (s : _root_.Go.ChangeSpec) : _root_.Go.OpenSpec := { _root_.Go.OpenSpec.ofChange s with cond := some uptoSmall }

/-- 'pointcodelaw39.UpdatesCode', WHERE WHAT IT READS IS OF BULK AT MOST 1048576: true; the input reads as it did. -/
def updatesCodeUptoRow : OpenClaim := { program := "ythbbmpelldglmaadoor", sum := "cdeb1ad1f6fde69471a76bd25f40b6223206179f3a2fee380608b1ab902ad204", func := "pointcode/pointcodelaw39.UpdatesCode", spec := "updatesCode", inPlace := ["internal/bytealg.IndexByteString", "internal/bytealg.IndexString", "internal/abi.NoEscape"], unfollowed := true, recurses := true, named := ["unicode/utf8.first", "unicode/utf8.acceptRanges", "internal/bytealg.MaxLen"], apart := false, laid := [("unicode/utf8.acceptRanges", laid_unicode_utf8_acceptRanges), ("unicode/utf8.first", laid_unicode_utf8_first)], narrowed := true }
def UpdatesCodeUptoSaid : Prop := updatesCodeUptoRow.holds Tryd.pinned (OpenSpec.upto updatesCodeSpec)

/-- 'pointcodetop.TopChanged', WHERE WHAT IT READS IS OF BULK AT MOST 1048576: true; the input reads as it did. -/
def topChangedUptoRow : OpenClaim := { program := "ythbbmpelldglmaadoor", sum := "cdeb1ad1f6fde69471a76bd25f40b6223206179f3a2fee380608b1ab902ad204", func := "pointcode/pointcodetop.TopChanged", spec := "topChanged", unfollowed := true, recurses := true, named := ["pointcode/frames.flag"], apart := false, laid := [("pointcode/frames.flag", laid_pointcode_frames_flag)], narrowed := true }
def TopChangedUptoSaid : Prop := topChangedUptoRow.holds Tryd.pinned (OpenSpec.upto topChangedSpec)

/-- 'pointcodelaw39.UpdatesServe', WHERE WHAT IT READS IS OF BULK AT MOST 1048576: true; the input reads as it did. -/
def updatesServeUptoRow : OpenClaim := { program := "ythbbmpelldglmaadoor", sum := "cdeb1ad1f6fde69471a76bd25f40b6223206179f3a2fee380608b1ab902ad204", func := "pointcode/pointcodelaw39.UpdatesServe", spec := "updatesServe", inPlace := ["internal/bytealg.IndexByteString", "internal/bytealg.IndexString", "internal/abi.NoEscape"], unfollowed := true, recurses := true, named := ["unicode/utf8.first", "unicode/utf8.acceptRanges", "internal/bytealg.MaxLen"], apart := false, laid := [("unicode/utf8.acceptRanges", laid_unicode_utf8_acceptRanges), ("unicode/utf8.first", laid_unicode_utf8_first)], narrowed := true }
def UpdatesServeUptoSaid : Prop := updatesServeUptoRow.holds Tryd.pinned (OpenSpec.upto updatesServeSpec)

/-- 'pointcodelaw38.SubscribersFlip', WHERE WHAT IT READS IS OF BULK AT MOST 1048576: true; the input reads as it did. -/
def subscribersFlipUptoRow : OpenClaim := { program := "ythbbmpelldglmaadoor", sum := "cdeb1ad1f6fde69471a76bd25f40b6223206179f3a2fee380608b1ab902ad204", func := "pointcode/pointcodelaw38.SubscribersFlip", spec := "subscribersFlip", inPlace := ["internal/bytealg.IndexByteString", "internal/bytealg.IndexString", "internal/bytealg.abigen_runtime_cmpstring"], unfollowed := true, recurses := true, named := ["unicode/utf8.first", "unicode/utf8.acceptRanges", "internal/bytealg.MaxLen"], apart := false, laid := [("unicode/utf8.acceptRanges", laid_unicode_utf8_acceptRanges), ("unicode/utf8.first", laid_unicode_utf8_first)], narrowed := true }
def SubscribersFlipUptoSaid : Prop := subscribersFlipUptoRow.holds Tryd.pinned (OpenSpec.upto subscribersFlipSpec)

/-- 'pointcodetop.TopUnits', WHERE WHAT IT READS IS OF BULK AT MOST 1048576: true; the input reads as it did. -/
def topUnitsUptoRow : OpenClaim := { program := "ythbbmpelldglmaadoor", sum := "cdeb1ad1f6fde69471a76bd25f40b6223206179f3a2fee380608b1ab902ad204", func := "pointcode/pointcodetop.TopUnits", spec := "topUnits", unfollowed := true, recurses := true, named := ["pointcode/frames.flag"], apart := false, laid := [("pointcode/frames.flag", laid_pointcode_frames_flag)], narrowed := true }
def TopUnitsUptoSaid : Prop := topUnitsUptoRow.holds Tryd.pinned (OpenSpec.upto topUnitsSpec)

/-- 'pointcodelaw38.SubscribersReplay', WHERE WHAT IT READS IS OF BULK AT MOST 1048576: true; the input reads as it did. -/
def subscribersReplayUptoRow : OpenClaim := { program := "ythbbmpelldglmaadoor", sum := "cdeb1ad1f6fde69471a76bd25f40b6223206179f3a2fee380608b1ab902ad204", func := "pointcode/pointcodelaw38.SubscribersReplay", spec := "subscribersReplay", inPlace := ["internal/bytealg.IndexByteString", "internal/bytealg.IndexString", "internal/bytealg.abigen_runtime_cmpstring"], unfollowed := true, recurses := true, named := ["unicode/utf8.first", "unicode/utf8.acceptRanges", "internal/bytealg.MaxLen"], apart := false, laid := [("unicode/utf8.acceptRanges", laid_unicode_utf8_acceptRanges), ("unicode/utf8.first", laid_unicode_utf8_first)], narrowed := true }
def SubscribersReplayUptoSaid : Prop := subscribersReplayUptoRow.holds Tryd.pinned (OpenSpec.upto subscribersReplaySpec)

/-- 'pointcodetop.TopSharedSums', WHERE WHAT IT READS IS OF BULK AT MOST 1048576: true; the input reads as it did. -/
def topSharedSumsUptoRow : OpenClaim := { program := "ythbbmpelldglmaadoor", sum := "cdeb1ad1f6fde69471a76bd25f40b6223206179f3a2fee380608b1ab902ad204", func := "pointcode/pointcodetop.TopSharedSums", spec := "topSharedSums", inPlace := ["internal/bytealg.IndexByteString", "internal/bytealg.IndexString"], unfollowed := true, recurses := true, named := ["unicode/utf8.first", "unicode/utf8.acceptRanges", "internal/bytealg.MaxLen"], apart := false, laid := [("unicode/utf8.acceptRanges", laid_unicode_utf8_acceptRanges), ("unicode/utf8.first", laid_unicode_utf8_first)], narrowed := true }
def TopSharedSumsUptoSaid : Prop := topSharedSumsUptoRow.holds Tryd.pinned (OpenSpec.upto topSharedSumsSpec)

end Rows
end Go.Proofs.YthbbmpelldglmaaDoor
