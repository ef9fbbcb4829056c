/-
  DERIVED. GIVEN WITH THE SEED: THE CARDS: each row of YthbbmpelldglmaaGreatDoorRows.lean that lists a variable, with what it lists TIED to the program's text (the seventh form; the later family's looks); each row that meets fmt, with fmt's text TOLD by the authors' own Lean function (tested against real Go, not proved from fmt's source: count such statements apart). THE CARD IS WHAT COUNTS. Prove the row's statement (the work); the ties are given (YthbbmpelldglmaaGreatDoorTie.lean); close each card by the builder's one call (the guide's Derived/Test/ToyasCard.lean, 'card_holds'). Laid BY PROGRAM, IN A SANDBOX (cutbox-door.mjs). By AI agents, Wed Nov 11 2026. No macro, syntax, notation, axiom, sorry.
-/
import Derived.Test.YthbbmpelldglmaaGreatDoorRows
import GoSem.ClaimSeven
namespace Go.Proofs.YthbbmpelldglmaaGreatDoor
namespace Rows

/-- THE TIED CARD OF 'pointcodelaw38.SubscribersCrash'. -/
def subscribersCrashCard : Claim7 := { stood := { row := subscribersCrashRow, standIns := [], harness := (true, "fb0316b1a1c48b26271408cf0b1539d86d681eb38fabf288880644fef56b7c31"), looks := true }, kinds := [], alts := [], laidByText := true, laidKinds := [.data, .pinned], laidTests := true, laidLooks := .later }
def SubscribersCrashCardSaid : Prop := Claim7.holds Tryz.pinned (.plain (OpenSpec.ofChange subscribersCrashSpec)) subscribersCrashCard

/-- THE TIED CARD OF 'pointcodelaw38.SubscribersPlay'. -/
def subscribersPlayCard : Claim7 := { stood := { row := subscribersPlayRow, standIns := [], harness := (true, "fb0316b1a1c48b26271408cf0b1539d86d681eb38fabf288880644fef56b7c31"), looks := true }, kinds := [], alts := [], laidByText := true, laidKinds := [.data, .pinned], laidTests := true, laidLooks := .later }
def SubscribersPlayCardSaid : Prop := Claim7.holds Tryz.pinned (.plain (OpenSpec.ofChange subscribersPlaySpec)) subscribersPlayCard

/-- THE TIED CARD OF 'pointcodelaw38.SubscribersCompact'. -/
def subscribersCompactCard : Claim7 := { stood := { row := subscribersCompactRow, standIns := [], harness := (true, "fb0316b1a1c48b26271408cf0b1539d86d681eb38fabf288880644fef56b7c31"), looks := true }, kinds := [], alts := [], laidByText := true, laidKinds := [.data, .pinned], laidTests := true, laidLooks := .later }
def SubscribersCompactCardSaid : Prop := Claim7.holds Tryz.pinned (.plain (OpenSpec.ofChange subscribersCompactSpec)) subscribersCompactCard

/-- THE TIED CARD OF 'pointcodelaw39.UpdatesSettle'. -/
def updatesSettleCard : Claim7 := { stood := { row := updatesSettleRow, standIns := [], harness := (true, "fb0316b1a1c48b26271408cf0b1539d86d681eb38fabf288880644fef56b7c31"), looks := true }, kinds := [], alts := [], laidByText := true, laidKinds := [.data, .pinned], laidTests := true, laidLooks := .later }
def UpdatesSettleCardSaid : Prop := Claim7.holds Tryz.pinned (.plain (OpenSpec.ofChange updatesSettleSpec)) updatesSettleCard

/-- THE TIED CARD OF 'pointcodelaw38.SubscribersValid'. -/
def subscribersValidCard : Claim7 := { stood := { row := subscribersValidRow, standIns := [], harness := (true, "fb0316b1a1c48b26271408cf0b1539d86d681eb38fabf288880644fef56b7c31"), looks := true }, kinds := [], alts := [], laidByText := true, laidKinds := [.data, .pinned], laidTests := true, laidLooks := .later }
def SubscribersValidCardSaid : Prop := Claim7.holds Tryz.pinned (.plain (OpenSpec.ofChange subscribersValidSpec)) subscribersValidCard

/-- THE SECOND FORM's CARD OF 'pointcodelaw38.SubscribersCrash'. -/
def subscribersCrashUptoCard : Claim7 := { stood := { row := subscribersCrashUptoRow, standIns := [], harness := (true, "fb0316b1a1c48b26271408cf0b1539d86d681eb38fabf288880644fef56b7c31"), looks := true }, kinds := [], alts := [], laidByText := true, laidKinds := [.data, .pinned], laidTests := true, laidLooks := .later }
def SubscribersCrashUptoCardSaid : Prop := Claim7.holds Tryz.pinned (.plain (OpenSpec.upto subscribersCrashSpec)) subscribersCrashUptoCard

/-- THE SECOND FORM's CARD OF 'pointcodelaw38.SubscribersPlay'. -/
def subscribersPlayUptoCard : Claim7 := { stood := { row := subscribersPlayUptoRow, standIns := [], harness := (true, "fb0316b1a1c48b26271408cf0b1539d86d681eb38fabf288880644fef56b7c31"), looks := true }, kinds := [], alts := [], laidByText := true, laidKinds := [.data, .pinned], laidTests := true, laidLooks := .later }
def SubscribersPlayUptoCardSaid : Prop := Claim7.holds Tryz.pinned (.plain (OpenSpec.upto subscribersPlaySpec)) subscribersPlayUptoCard

/-- THE SECOND FORM's CARD OF 'pointcodelaw38.SubscribersCompact'. -/
def subscribersCompactUptoCard : Claim7 := { stood := { row := subscribersCompactUptoRow, standIns := [], harness := (true, "fb0316b1a1c48b26271408cf0b1539d86d681eb38fabf288880644fef56b7c31"), looks := true }, kinds := [], alts := [], laidByText := true, laidKinds := [.data, .pinned], laidTests := true, laidLooks := .later }
def SubscribersCompactUptoCardSaid : Prop := Claim7.holds Tryz.pinned (.plain (OpenSpec.upto subscribersCompactSpec)) subscribersCompactUptoCard

/-- THE SECOND FORM's CARD OF 'pointcodelaw39.UpdatesSettle'. -/
def updatesSettleUptoCard : Claim7 := { stood := { row := updatesSettleUptoRow, standIns := [], harness := (true, "fb0316b1a1c48b26271408cf0b1539d86d681eb38fabf288880644fef56b7c31"), looks := true }, kinds := [], alts := [], laidByText := true, laidKinds := [.data, .pinned], laidTests := true, laidLooks := .later }
def UpdatesSettleUptoCardSaid : Prop := Claim7.holds Tryz.pinned (.plain (OpenSpec.upto updatesSettleSpec)) updatesSettleUptoCard

/-- THE SECOND FORM's CARD OF 'pointcodelaw38.SubscribersValid'. -/
def subscribersValidUptoCard : Claim7 := { stood := { row := subscribersValidUptoRow, standIns := [], harness := (true, "fb0316b1a1c48b26271408cf0b1539d86d681eb38fabf288880644fef56b7c31"), looks := true }, kinds := [], alts := [], laidByText := true, laidKinds := [.data, .pinned], laidTests := true, laidLooks := .later }
def SubscribersValidUptoCardSaid : Prop := Claim7.holds Tryz.pinned (.plain (OpenSpec.upto subscribersValidSpec)) subscribersValidUptoCard
end Rows
end Go.Proofs.YthbbmpelldglmaaGreatDoor
