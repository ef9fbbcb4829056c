/-
  NARROWER THAN 'FOR EVERY INPUT', by the rows' own cells (each row's printed sentence says how): SubscribersCrash: laid · SubscribersPlay: laid · SubscribersCompact: laid · UpdatesSettle: laid · SubscribersValid: laid.
  DERIVED. THE GIVEN ROWS OF THIS SEAT. 5 by the template 'for every input the law returns true; each argument reads behind the call as it read before'; 0 by the template 'total and deterministic' (their statements: YthbbmpelldglmaaGreatDoorTotals.lean).
  GIVEN WITH THE SEED: the statements are not yours to turn. If you find one false, say at which input.
  Laid BY PROGRAM, IN A SANDBOX (cutbox-rows.mjs): the forced cells as the released guide's own fill.sh prints them over the translation 031deac878493ebc… (all of the seat's roots in one cut). By AI agents, Wed Nov 11 2026. No macro, syntax, notation, axiom, sorry.
-/
import Derived.Test.YthbbmpelldglmaaGreatDoorChecked
import GoSem.PinnedTables
import GoSem.Claim
import GoSem.ClaimJoined
import GoSem.ClaimMapViews
import Derived.JoinedTies
import Derived.KernelRfl
namespace Go.Proofs.YthbbmpelldglmaaGreatDoor
/- THE CELL 'sum', in the pinned program and in every row, IS THE sha256 OF THE DUMP (.gsa) THAT YthbbmpelldglmaaGreatDoorProg.lean LOADS. Nothing in Lean hashes anything: it is a label: what it is worth is what the hold of that sum in a sandbox is worth. -/
noncomputable def Tryz.pinned : Pinned := { name := "ythbbmpelldglmaagreatdoor", sum := "031deac878493ebc90cc7fe08e84c70968fe6c5f0a7fa1a917a1fe3dd167d8a6", checked := Tryz.checked }
namespace Rows
def none {H : Type} : Left H := { results := [], args := [] }

/- WHAT THE LISTED PACKAGE-LEVEL VARIABLES READ AS WHEN THE CALL BEGINS. Each datum BY PROGRAM (the guide's laid-datum.mjs) off the statement by which the dump's own 'gosem.cut.vars' lays the variable. In a bare row this is a premise. The card (YthbbmpelldglmaaGreatDoorCards.lean) ties it to the program's text. -/
def laid_unicode_utf8_acceptRanges {H : Type} : DataW H := .agg [.agg [.lit (.int .u8 128), .lit (.int .u8 191)], .agg [.lit (.int .u8 160), .lit (.int .u8 191)], .agg [.lit (.int .u8 128), .lit (.int .u8 159)], .agg [.lit (.int .u8 144), .lit (.int .u8 191)], .agg [.lit (.int .u8 128), .lit (.int .u8 143)], .agg [.lit (.int .u8 0), .lit (.int .u8 0)], .agg [.lit (.int .u8 0), .lit (.int .u8 0)], .agg [.lit (.int .u8 0), .lit (.int .u8 0)], .agg [.lit (.int .u8 0), .lit (.int .u8 0)], .agg [.lit (.int .u8 0), .lit (.int .u8 0)], .agg [.lit (.int .u8 0), .lit (.int .u8 0)], .agg [.lit (.int .u8 0), .lit (.int .u8 0)], .agg [.lit (.int .u8 0), .lit (.int .u8 0)], .agg [.lit (.int .u8 0), .lit (.int .u8 0)], .agg [.lit (.int .u8 0), .lit (.int .u8 0)], .agg [.lit (.int .u8 0), .lit (.int .u8 0)]]
/-- One of Go's own tables, pinned by name: the form's constant. -/
def laid_unicode_utf8_first : DataW Unit := Go.Pinned.utf8First

/-- 'pointcodelaw38.SubscribersCrash': WHATEVER THE INPUT: true; the input reads as it did. -/
def subscribersCrashSpec : ChangeSpec := { name := "subscribersCrash", fn := fun _ => fun
  | [d1, d2, d3] => { results := [.lit (.bool true)], args := [d1, d2, d3] }
  | _ => none }
def subscribersCrashRow : OpenClaim := { program := "ythbbmpelldglmaagreatdoor", sum := "031deac878493ebc90cc7fe08e84c70968fe6c5f0a7fa1a917a1fe3dd167d8a6", func := "pointcode/pointcodelaw38.SubscribersCrash", spec := "subscribersCrash", inPlace := ["internal/bytealg.IndexByteString", "internal/bytealg.IndexString", "internal/bytealg.abigen_runtime_cmpstring"], unfollowed := true, recurses := true, named := ["unicode/utf8.first", "unicode/utf8.acceptRanges", "internal/bytealg.MaxLen"], apart := false, laid := [("unicode/utf8.acceptRanges", laid_unicode_utf8_acceptRanges), ("unicode/utf8.first", laid_unicode_utf8_first)] }
def SubscribersCrashSaid : Prop := subscribersCrashRow.holds Tryz.pinned (OpenSpec.ofChange subscribersCrashSpec)

/-- ITS FALSE NEIGHBOUR: 'it returns false'. Refute it at one input. -/
def subscribersCrashWrong : ChangeSpec := { name := "subscribersCrash", fn := fun _ => fun
  | [d1, d2, d3] => { results := [.lit (.bool false)], args := [d1, d2, d3] }
  | _ => none }
def SubscribersCrashWrongFalsely : Prop := subscribersCrashRow.holds Tryz.pinned (OpenSpec.ofChange subscribersCrashWrong)

/-- 'pointcodelaw38.SubscribersPlay': WHATEVER THE INPUT: true; the input reads as it did. -/
def subscribersPlaySpec : ChangeSpec := { name := "subscribersPlay", fn := fun _ => fun
  | [d] => { results := [.lit (.bool true)], args := [d] }
  | _ => none }
def subscribersPlayRow : OpenClaim := { program := "ythbbmpelldglmaagreatdoor", sum := "031deac878493ebc90cc7fe08e84c70968fe6c5f0a7fa1a917a1fe3dd167d8a6", func := "pointcode/pointcodelaw38.SubscribersPlay", spec := "subscribersPlay", inPlace := ["internal/bytealg.IndexByteString", "internal/bytealg.IndexString", "internal/bytealg.abigen_runtime_cmpstring"], unfollowed := true, recurses := true, named := ["unicode/utf8.first", "unicode/utf8.acceptRanges", "internal/bytealg.MaxLen"], apart := false, laid := [("unicode/utf8.acceptRanges", laid_unicode_utf8_acceptRanges), ("unicode/utf8.first", laid_unicode_utf8_first)] }
def SubscribersPlaySaid : Prop := subscribersPlayRow.holds Tryz.pinned (OpenSpec.ofChange subscribersPlaySpec)

/-- ITS FALSE NEIGHBOUR: 'it returns false'. Refute it at one input. -/
def subscribersPlayWrong : ChangeSpec := { name := "subscribersPlay", fn := fun _ => fun
  | [d] => { results := [.lit (.bool false)], args := [d] }
  | _ => none }
def SubscribersPlayWrongFalsely : Prop := subscribersPlayRow.holds Tryz.pinned (OpenSpec.ofChange subscribersPlayWrong)

/-- 'pointcodelaw38.SubscribersCompact': WHATEVER THE INPUT: true; the input reads as it did. -/
def subscribersCompactSpec : ChangeSpec := { name := "subscribersCompact", fn := fun _ => fun
  | [d] => { results := [.lit (.bool true)], args := [d] }
  | _ => none }
def subscribersCompactRow : OpenClaim := { program := "ythbbmpelldglmaagreatdoor", sum := "031deac878493ebc90cc7fe08e84c70968fe6c5f0a7fa1a917a1fe3dd167d8a6", func := "pointcode/pointcodelaw38.SubscribersCompact", spec := "subscribersCompact", inPlace := ["internal/bytealg.IndexByteString", "internal/bytealg.IndexString", "internal/bytealg.abigen_runtime_cmpstring"], unfollowed := true, recurses := true, named := ["unicode/utf8.first", "unicode/utf8.acceptRanges", "internal/bytealg.MaxLen"], apart := false, laid := [("unicode/utf8.acceptRanges", laid_unicode_utf8_acceptRanges), ("unicode/utf8.first", laid_unicode_utf8_first)] }
def SubscribersCompactSaid : Prop := subscribersCompactRow.holds Tryz.pinned (OpenSpec.ofChange subscribersCompactSpec)

/-- ITS FALSE NEIGHBOUR: 'it returns false'. Refute it at one input. -/
def subscribersCompactWrong : ChangeSpec := { name := "subscribersCompact", fn := fun _ => fun
  | [d] => { results := [.lit (.bool false)], args := [d] }
  | _ => none }
def SubscribersCompactWrongFalsely : Prop := subscribersCompactRow.holds Tryz.pinned (OpenSpec.ofChange subscribersCompactWrong)

/-- 'pointcodelaw39.UpdatesSettle': WHATEVER THE INPUT: true; the input reads as it did. -/
def updatesSettleSpec : ChangeSpec := { name := "updatesSettle", fn := fun _ => fun
  | [d] => { results := [.lit (.bool true)], args := [d] }
  | _ => none }
def updatesSettleRow : OpenClaim := { program := "ythbbmpelldglmaagreatdoor", sum := "031deac878493ebc90cc7fe08e84c70968fe6c5f0a7fa1a917a1fe3dd167d8a6", func := "pointcode/pointcodelaw39.UpdatesSettle", spec := "updatesSettle", inPlace := ["internal/bytealg.IndexByteString", "internal/bytealg.IndexString", "internal/abi.NoEscape"], unfollowed := true, recurses := true, named := ["unicode/utf8.first", "unicode/utf8.acceptRanges", "internal/bytealg.MaxLen"], apart := false, laid := [("unicode/utf8.acceptRanges", laid_unicode_utf8_acceptRanges), ("unicode/utf8.first", laid_unicode_utf8_first)] }
def UpdatesSettleSaid : Prop := updatesSettleRow.holds Tryz.pinned (OpenSpec.ofChange updatesSettleSpec)

/-- ITS FALSE NEIGHBOUR: 'it returns false'. Refute it at one input. -/
def updatesSettleWrong : ChangeSpec := { name := "updatesSettle", fn := fun _ => fun
  | [d] => { results := [.lit (.bool false)], args := [d] }
  | _ => none }
def UpdatesSettleWrongFalsely : Prop := updatesSettleRow.holds Tryz.pinned (OpenSpec.ofChange updatesSettleWrong)

/-- 'pointcodelaw38.SubscribersValid': WHATEVER THE INPUT: true; the input reads as it did. -/
def subscribersValidSpec : ChangeSpec := { name := "subscribersValid", fn := fun _ => fun
  | [d1, d2] => { results := [.lit (.bool true)], args := [d1, d2] }
  | _ => none }
def subscribersValidRow : OpenClaim := { program := "ythbbmpelldglmaagreatdoor", sum := "031deac878493ebc90cc7fe08e84c70968fe6c5f0a7fa1a917a1fe3dd167d8a6", func := "pointcode/pointcodelaw38.SubscribersValid", spec := "subscribersValid", inPlace := ["internal/bytealg.IndexByteString", "internal/bytealg.IndexString", "internal/bytealg.abigen_runtime_cmpstring"], unfollowed := true, recurses := true, named := ["unicode/utf8.first", "unicode/utf8.acceptRanges", "internal/bytealg.MaxLen"], apart := false, laid := [("unicode/utf8.acceptRanges", laid_unicode_utf8_acceptRanges), ("unicode/utf8.first", laid_unicode_utf8_first)] }
def SubscribersValidSaid : Prop := subscribersValidRow.holds Tryz.pinned (OpenSpec.ofChange subscribersValidSpec)

/-- ITS FALSE NEIGHBOUR: 'it returns false'. Refute it at one input. -/
def subscribersValidWrong : ChangeSpec := { name := "subscribersValid", fn := fun _ => fun
  | [d1, d2] => { results := [.lit (.bool false)], args := [d1, d2] }
  | _ => none }
def SubscribersValidWrongFalsely : Prop := subscribersValidRow.holds Tryz.pinned (OpenSpec.ofChange subscribersValidWrong)

/- THE SECOND FORM. 'bulk': how many values and letters a reading holds, each counted each time it is reached (what is shared counts as often as it is met; a slice's spare places count too). A statement '..UptoSaid' is the law's where the arguments, and the package variables that the reading takes, are together of bulk at most 1048576: NARROWER than '..Said'. Prove '..Said' where nothing that the law and all that it calls make is longer than what came in: it says more and counts as full. Else prove '..UptoSaid'. A law counts once. -/
mutual
def uptoBulk {H : Type} : DataW H → Nat
  | .lit (.string bytes) => bytes.length + 1
  | .lit _ => 1
  | .nil => 1
  | .ptr d => uptoBulk d + 1
  | .slice elems spare => uptoBulkAll elems + uptoBulkAll spare + 1
  | .agg parts => uptoBulkAll parts + 1
  | .iface _ d => uptoBulk d + 1
  | .map entries => uptoBulkEntries entries + 1
  | .held _ => 1
def uptoBulkAll {H : Type} : List (DataW H) → Nat
  | [] => 0
  | d :: r => uptoBulk d + uptoBulkAll r
def uptoBulkEntries {H : Type} : List (Lit × DataW H) → Nat
  | [] => 0
  | x :: r => uptoBulkEntry x + uptoBulkEntries r
def uptoBulkEntry {H : Type} : Lit × DataW H → Nat
  | (.string bytes, d) => bytes.length + uptoBulk d + 1
  | (_, d) => uptoBulk d + 1
 end
def uptoSmall : (H : Type) → List (DataW H) → Bool := fun _ ds => decide (uptoBulkAll ds ≤ 1048576)
def OpenSpec.upto (s : _root_.Go.ChangeSpec) : _root_.Go.OpenSpec := { _root_.Go.OpenSpec.ofChange s with cond := some uptoSmall }

/-- 'pointcodelaw38.SubscribersCrash', WHERE WHAT IT READS IS OF BULK AT MOST 1048576: true; the input reads as it did. -/
def subscribersCrashUptoRow : OpenClaim := { program := "ythbbmpelldglmaagreatdoor", sum := "031deac878493ebc90cc7fe08e84c70968fe6c5f0a7fa1a917a1fe3dd167d8a6", func := "pointcode/pointcodelaw38.SubscribersCrash", spec := "subscribersCrash", inPlace := ["internal/bytealg.IndexByteString", "internal/bytealg.IndexString", "internal/bytealg.abigen_runtime_cmpstring"], unfollowed := true, recurses := true, named := ["unicode/utf8.first", "unicode/utf8.acceptRanges", "internal/bytealg.MaxLen"], apart := false, laid := [("unicode/utf8.acceptRanges", laid_unicode_utf8_acceptRanges), ("unicode/utf8.first", laid_unicode_utf8_first)], narrowed := true }
def SubscribersCrashUptoSaid : Prop := subscribersCrashUptoRow.holds Tryz.pinned (OpenSpec.upto subscribersCrashSpec)

/-- 'pointcodelaw38.SubscribersPlay', WHERE WHAT IT READS IS OF BULK AT MOST 1048576: true; the input reads as it did. -/
def subscribersPlayUptoRow : OpenClaim := { program := "ythbbmpelldglmaagreatdoor", sum := "031deac878493ebc90cc7fe08e84c70968fe6c5f0a7fa1a917a1fe3dd167d8a6", func := "pointcode/pointcodelaw38.SubscribersPlay", spec := "subscribersPlay", inPlace := ["internal/bytealg.IndexByteString", "internal/bytealg.IndexString", "internal/bytealg.abigen_runtime_cmpstring"], unfollowed := true, recurses := true, named := ["unicode/utf8.first", "unicode/utf8.acceptRanges", "internal/bytealg.MaxLen"], apart := false, laid := [("unicode/utf8.acceptRanges", laid_unicode_utf8_acceptRanges), ("unicode/utf8.first", laid_unicode_utf8_first)], narrowed := true }
def SubscribersPlayUptoSaid : Prop := subscribersPlayUptoRow.holds Tryz.pinned (OpenSpec.upto subscribersPlaySpec)

/-- 'pointcodelaw38.SubscribersCompact', WHERE WHAT IT READS IS OF BULK AT MOST 1048576: true; the input reads as it did. -/
def subscribersCompactUptoRow : OpenClaim := { program := "ythbbmpelldglmaagreatdoor", sum := "031deac878493ebc90cc7fe08e84c70968fe6c5f0a7fa1a917a1fe3dd167d8a6", func := "pointcode/pointcodelaw38.SubscribersCompact", spec := "subscribersCompact", inPlace := ["internal/bytealg.IndexByteString", "internal/bytealg.IndexString", "internal/bytealg.abigen_runtime_cmpstring"], unfollowed := true, recurses := true, named := ["unicode/utf8.first", "unicode/utf8.acceptRanges", "internal/bytealg.MaxLen"], apart := false, laid := [("unicode/utf8.acceptRanges", laid_unicode_utf8_acceptRanges), ("unicode/utf8.first", laid_unicode_utf8_first)], narrowed := true }
def SubscribersCompactUptoSaid : Prop := subscribersCompactUptoRow.holds Tryz.pinned (OpenSpec.upto subscribersCompactSpec)

/-- 'pointcodelaw39.UpdatesSettle', WHERE WHAT IT READS IS OF BULK AT MOST 1048576: true; the input reads as it did. -/
def updatesSettleUptoRow : OpenClaim := { program := "ythbbmpelldglmaagreatdoor", sum := "031deac878493ebc90cc7fe08e84c70968fe6c5f0a7fa1a917a1fe3dd167d8a6", func := "pointcode/pointcodelaw39.UpdatesSettle", spec := "updatesSettle", inPlace := ["internal/bytealg.IndexByteString", "internal/bytealg.IndexString", "internal/abi.NoEscape"], unfollowed := true, recurses := true, named := ["unicode/utf8.first", "unicode/utf8.acceptRanges", "internal/bytealg.MaxLen"], apart := false, laid := [("unicode/utf8.acceptRanges", laid_unicode_utf8_acceptRanges), ("unicode/utf8.first", laid_unicode_utf8_first)], narrowed := true }
def UpdatesSettleUptoSaid : Prop := updatesSettleUptoRow.holds Tryz.pinned (OpenSpec.upto updatesSettleSpec)

/-- 'pointcodelaw38.SubscribersValid', WHERE WHAT IT READS IS OF BULK AT MOST 1048576: true; the input reads as it did. -/
def subscribersValidUptoRow : OpenClaim := { program := "ythbbmpelldglmaagreatdoor", sum := "031deac878493ebc90cc7fe08e84c70968fe6c5f0a7fa1a917a1fe3dd167d8a6", func := "pointcode/pointcodelaw38.SubscribersValid", spec := "subscribersValid", inPlace := ["internal/bytealg.IndexByteString", "internal/bytealg.IndexString", "internal/bytealg.abigen_runtime_cmpstring"], unfollowed := true, recurses := true, named := ["unicode/utf8.first", "unicode/utf8.acceptRanges", "internal/bytealg.MaxLen"], apart := false, laid := [("unicode/utf8.acceptRanges", laid_unicode_utf8_acceptRanges), ("unicode/utf8.first", laid_unicode_utf8_first)], narrowed := true }
def SubscribersValidUptoSaid : Prop := subscribersValidUptoRow.holds Tryz.pinned (OpenSpec.upto subscribersValidSpec)

end Rows
end Go.Proofs.YthbbmpelldglmaaGreatDoor
