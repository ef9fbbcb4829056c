/-
  DERIVED. GIVEN WITH THE SEED: THE CARDS: each row of YthbbmpelldglmaaDoorRows.lean that lists a variable, with what it lists TIED to the program's text (the seventh form; the later family's looks); each row that meets fmt, with fmt's text TOLD by the authors' own Lean function (tested against real Go, not proved from fmt's source: count such statements apart). THE CARD IS WHAT COUNTS. Prove the row's statement (the work); the ties are given (YthbbmpelldglmaaDoorTie.lean); close each card by the builder's one call (the guide's Derived/Test/ToyasCard.lean, 'card_holds'). Laid BY PROGRAM, IN A SANDBOX (cutbox-door.mjs). By AI agents, Wed Nov 11 2026. No macro, syntax, notation, axiom, sorry.
-/
import Derived.Test.YthbbmpelldglmaaDoorRows
import GoSem.ClaimSeven
namespace Go.Proofs.YthbbmpelldglmaaDoor
namespace Rows

/-- THE TIED CARD OF 'pointcodelaw39.UpdatesCode'. -/
def updatesCodeCard : Claim7 := { stood := { row := updatesCodeRow, standIns := [], harness := (true, "f3b0ef59bc09cde9920d5d3f06c05051dc88fd17f8576795e8d692310cdf09b4"), looks := true }, kinds := [], alts := [], laidByText := true, laidKinds := [.data, .pinned], laidTests := true, laidLooks := .later }
def UpdatesCodeCardSaid : Prop := Claim7.holds Tryd.pinned (.plain (OpenSpec.ofChange updatesCodeSpec)) updatesCodeCard

/-- THE TIED CARD OF 'pointcodetop.TopChanged'. -/
def topChangedCard : Claim7 := { stood := { row := topChangedRow, standIns := [], harness := (true, "f3b0ef59bc09cde9920d5d3f06c05051dc88fd17f8576795e8d692310cdf09b4"), looks := true }, kinds := [], alts := [], laidByText := true, laidKinds := [.widerDeep], laidTests := true, laidLooks := .later }
def TopChangedCardSaid : Prop := Claim7.holds Tryd.pinned (.plain (OpenSpec.ofChange topChangedSpec)) topChangedCard

/-- THE TIED CARD OF 'pointcodelaw39.UpdatesServe'. -/
def updatesServeCard : Claim7 := { stood := { row := updatesServeRow, standIns := [], harness := (true, "f3b0ef59bc09cde9920d5d3f06c05051dc88fd17f8576795e8d692310cdf09b4"), looks := true }, kinds := [], alts := [], laidByText := true, laidKinds := [.data, .pinned], laidTests := true, laidLooks := .later }
def UpdatesServeCardSaid : Prop := Claim7.holds Tryd.pinned (.plain (OpenSpec.ofChange updatesServeSpec)) updatesServeCard

/-- THE TIED CARD OF 'pointcodelaw38.SubscribersFlip'. -/
def subscribersFlipCard : Claim7 := { stood := { row := subscribersFlipRow, standIns := [], harness := (true, "f3b0ef59bc09cde9920d5d3f06c05051dc88fd17f8576795e8d692310cdf09b4"), looks := true }, kinds := [], alts := [], laidByText := true, laidKinds := [.data, .pinned], laidTests := true, laidLooks := .later }
def SubscribersFlipCardSaid : Prop := Claim7.holds Tryd.pinned (.plain (OpenSpec.ofChange subscribersFlipSpec)) subscribersFlipCard

/-- THE TIED CARD OF 'pointcodetop.TopUnits'. -/
def topUnitsCard : Claim7 := { stood := { row := topUnitsRow, standIns := [], harness := (true, "f3b0ef59bc09cde9920d5d3f06c05051dc88fd17f8576795e8d692310cdf09b4"), looks := true }, kinds := [], alts := [], laidByText := true, laidKinds := [.widerDeep], laidTests := true, laidLooks := .later }
def TopUnitsCardSaid : Prop := Claim7.holds Tryd.pinned (.plain (OpenSpec.ofChange topUnitsSpec)) topUnitsCard

/-- THE TIED CARD OF 'pointcodelaw38.SubscribersReplay'. -/
def subscribersReplayCard : Claim7 := { stood := { row := subscribersReplayRow, standIns := [], harness := (true, "f3b0ef59bc09cde9920d5d3f06c05051dc88fd17f8576795e8d692310cdf09b4"), looks := true }, kinds := [], alts := [], laidByText := true, laidKinds := [.data, .pinned], laidTests := true, laidLooks := .later }
def SubscribersReplayCardSaid : Prop := Claim7.holds Tryd.pinned (.plain (OpenSpec.ofChange subscribersReplaySpec)) subscribersReplayCard

/-- THE TIED CARD OF 'pointcodetop.TopSharedSums'. -/
def topSharedSumsCard : Claim7 := { stood := { row := topSharedSumsRow, standIns := [], harness := (true, "f3b0ef59bc09cde9920d5d3f06c05051dc88fd17f8576795e8d692310cdf09b4"), looks := true }, kinds := [], alts := [], laidByText := true, laidKinds := [.data, .pinned], laidTests := true, laidLooks := .later }
def TopSharedSumsCardSaid : Prop := Claim7.holds Tryd.pinned (.plain (OpenSpec.ofChange topSharedSumsSpec)) topSharedSumsCard

/-- THE SECOND FORM's CARD OF 'pointcodelaw39.UpdatesCode'. -/
def updatesCodeUptoCard : Claim7 := { stood := { row := updatesCodeUptoRow, standIns := [], harness := (true, "f3b0ef59bc09cde9920d5d3f06c05051dc88fd17f8576795e8d692310cdf09b4"), looks := true }, kinds := [], alts := [], laidByText := true, laidKinds := [.data, .pinned], laidTests := true, laidLooks := .later }
def UpdatesCodeUptoCardSaid : Prop := Claim7.holds Tryd.pinned (.plain (OpenSpec.upto updatesCodeSpec)) updatesCodeUptoCard

/-- THE SECOND FORM's CARD OF 'pointcodetop.TopChanged'. -/
def topChangedUptoCard : Claim7 := { stood := { row := topChangedUptoRow, standIns := [], harness := (true, "f3b0ef59bc09cde9920d5d3f06c05051dc88fd17f8576795e8d692310cdf09b4"), looks := true }, kinds := [], alts := [], laidByText := true, laidKinds := [.widerDeep], laidTests := true, laidLooks := .later }
def TopChangedUptoCardSaid : Prop := Claim7.holds Tryd.pinned (.plain (OpenSpec.upto topChangedSpec)) topChangedUptoCard

/-- THE SECOND FORM's CARD OF 'pointcodelaw39.UpdatesServe'. -/
def updatesServeUptoCard : Claim7 := { stood := { row := updatesServeUptoRow, standIns := [], harness := (true, "f3b0ef59bc09cde9920d5d3f06c05051dc88fd17f8576795e8d692310cdf09b4"), looks := true }, kinds := [], alts := [], laidByText := true, laidKinds := [.data, .pinned], laidTests := true, laidLooks := .later }
def UpdatesServeUptoCardSaid : Prop := Claim7.holds Tryd.pinned (.plain (OpenSpec.upto updatesServeSpec)) updatesServeUptoCard

/-- THE SECOND FORM's CARD OF 'pointcodelaw38.SubscribersFlip'. -/
def subscribersFlipUptoCard : Claim7 := { stood := { row := subscribersFlipUptoRow, standIns := [], harness := (true, "f3b0ef59bc09cde9920d5d3f06c05051dc88fd17f8576795e8d692310cdf09b4"), looks := true }, kinds := [], alts := [], laidByText := true, laidKinds := [.data, .pinned], laidTests := true, laidLooks := .later }
def SubscribersFlipUptoCardSaid : Prop := Claim7.holds Tryd.pinned (.plain (OpenSpec.upto subscribersFlipSpec)) subscribersFlipUptoCard

/-- THE SECOND FORM's CARD OF 'pointcodetop.TopUnits'. -/
def topUnitsUptoCard : Claim7 := { stood := { row := topUnitsUptoRow, standIns := [], harness := (true, "f3b0ef59bc09cde9920d5d3f06c05051dc88fd17f8576795e8d692310cdf09b4"), looks := true }, kinds := [], alts := [], laidByText := true, laidKinds := [.widerDeep], laidTests := true, laidLooks := .later }
def TopUnitsUptoCardSaid : Prop := Claim7.holds Tryd.pinned (.plain (OpenSpec.upto topUnitsSpec)) topUnitsUptoCard

/-- THE SECOND FORM's CARD OF 'pointcodelaw38.SubscribersReplay'. -/
def subscribersReplayUptoCard : Claim7 := { stood := { row := subscribersReplayUptoRow, standIns := [], harness := (true, "f3b0ef59bc09cde9920d5d3f06c05051dc88fd17f8576795e8d692310cdf09b4"), looks := true }, kinds := [], alts := [], laidByText := true, laidKinds := [.data, .pinned], laidTests := true, laidLooks := .later }
def SubscribersReplayUptoCardSaid : Prop := Claim7.holds Tryd.pinned (.plain (OpenSpec.upto subscribersReplaySpec)) subscribersReplayUptoCard

/-- THE SECOND FORM's CARD OF 'pointcodetop.TopSharedSums'. -/
def topSharedSumsUptoCard : Claim7 := { stood := { row := topSharedSumsUptoRow, standIns := [], harness := (true, "f3b0ef59bc09cde9920d5d3f06c05051dc88fd17f8576795e8d692310cdf09b4"), looks := true }, kinds := [], alts := [], laidByText := true, laidKinds := [.data, .pinned], laidTests := true, laidLooks := .later }
def TopSharedSumsUptoCardSaid : Prop := Claim7.holds Tryd.pinned (.plain (OpenSpec.upto topSharedSumsSpec)) topSharedSumsUptoCard
end Rows
end Go.Proofs.YthbbmpelldglmaaDoor
