/-
  DERIVED. GIVEN WITH THE SEED: THE CARDS: each row of YtjaammiblfndaaaGreatDoorRows.lean that lists a variable, with what it lists TIED to the program's text (the seventh form; the later family's looks); each row that meets fmt, with fmt's text TOLD by the authors' own Lean function (tested against real Go, not proved from fmt's source: count such statements apart). THE CARD IS WHAT COUNTS. Prove the row's statement (the work); the ties are given (YtjaammiblfndaaaGreatDoorTie.lean); close each card by the builder's one call (the guide's Derived/Test/ToyasCard.lean, 'card_holds'). Laid BY PROGRAM, IN A SANDBOX (cutbox-door.mjs). By AI agents, Wed Nov 11 2026. No macro, syntax, notation, axiom, sorry.
-/
import Derived.Test.YtjaammiblfndaaaGreatDoorRows
import GoSem.ClaimSeven
namespace Go.Proofs.YtjaammiblfndaaaGreatDoor
namespace Rows

/-- THE TIED CARD OF 'rampartlaw25.EngineReloads'. -/
def engineReloadsCard : Claim7 := { stood := { row := engineReloadsRow, standIns := [], harness := (true, "9c6eb029d6082cabac06c190ebd65ca5cbd8a042b20c7029fd42d5d89c799ba4"), looks := true }, kinds := [], alts := [], laidByText := true, laidKinds := [.data, .pinned, .pinned], laidTests := true, laidLooks := .later }
def EngineReloadsCardSaid : Prop := Claim7.holds Tryz.pinned (.plain (OpenSpec.ofChange engineReloadsSpec)) engineReloadsCard

/-- THE TIED CARD OF 'rampartlaw25.EngineStops'. -/
def engineStopsCard : Claim7 := { stood := { row := engineStopsRow, standIns := [], harness := (true, "9c6eb029d6082cabac06c190ebd65ca5cbd8a042b20c7029fd42d5d89c799ba4"), looks := true }, kinds := [], alts := [], laidByText := true, laidKinds := [.data, .pinned, .pinned], laidTests := true, laidLooks := .later }
def EngineStopsCardSaid : Prop := Claim7.holds Tryz.pinned (.plain (OpenSpec.ofChange engineStopsSpec)) engineStopsCard

/-- THE TIED CARD OF 'rampartlaw25.EngineDatagrams'. -/
def engineDatagramsCard : Claim7 := { stood := { row := engineDatagramsRow, standIns := [], harness := (true, "9c6eb029d6082cabac06c190ebd65ca5cbd8a042b20c7029fd42d5d89c799ba4"), looks := true }, kinds := [], alts := [], laidByText := true, laidKinds := [.data, .pinned, .pinned], laidTests := true, laidLooks := .later }
def EngineDatagramsCardSaid : Prop := Claim7.holds Tryz.pinned (.plain (OpenSpec.ofChange engineDatagramsSpec)) engineDatagramsCard

/-- THE TIED CARD OF 'rampartlaw25.EngineBlocks'. -/
def engineBlocksCard : Claim7 := { stood := { row := engineBlocksRow, standIns := [], harness := (true, "9c6eb029d6082cabac06c190ebd65ca5cbd8a042b20c7029fd42d5d89c799ba4"), looks := true }, kinds := [], alts := [], laidByText := true, laidKinds := [.data, .pinned, .pinned], laidTests := true, laidLooks := .later }
def EngineBlocksCardSaid : Prop := Claim7.holds Tryz.pinned (.plain (OpenSpec.ofChange engineBlocksSpec)) engineBlocksCard

/-- THE TIED CARD OF 'rampartlaw26.PlayMost'. -/
def playMostCard : Claim7 := { stood := { row := playMostRow, standIns := [], harness := (true, "9c6eb029d6082cabac06c190ebd65ca5cbd8a042b20c7029fd42d5d89c799ba4"), looks := true }, kinds := [], alts := [], laidByText := true, laidKinds := [.data, .pinned, .pinned], laidTests := true, laidLooks := .later }
def PlayMostCardSaid : Prop := Claim7.holds Tryz.pinned (.plain (OpenSpec.ofChange playMostSpec)) playMostCard

/-- THE TIED CARD OF 'rampartlaw28.SheetTells'. -/
def sheetTellsCard : Claim7 := { stood := { row := sheetTellsRow, standIns := [], harness := (true, "9c6eb029d6082cabac06c190ebd65ca5cbd8a042b20c7029fd42d5d89c799ba4"), looks := true }, kinds := [], alts := [], laidByText := true, laidKinds := [.data, .data, .data, .data, .pinned, .pinned], laidTests := true, laidLooks := .later }
def SheetTellsCardSaid : Prop := Claim7.holds Tryz.pinned (.plain (OpenSpec.ofChange sheetTellsSpec)) sheetTellsCard

/-- THE TIED CARD OF 'rampartlaw28.SheetErrors'. -/
def sheetErrorsCard : Claim7 := { stood := { row := sheetErrorsRow, standIns := [], harness := (true, "9c6eb029d6082cabac06c190ebd65ca5cbd8a042b20c7029fd42d5d89c799ba4"), looks := true }, kinds := [], alts := [], laidByText := true, laidKinds := [.data, .data, .data, .data, .pinned, .pinned], laidTests := true, laidLooks := .later }
def SheetErrorsCardSaid : Prop := Claim7.holds Tryz.pinned (.plain (OpenSpec.ofChange sheetErrorsSpec)) sheetErrorsCard

/-- THE TIED CARD OF 'rampartlaw28.SheetTicks'. -/
def sheetTicksCard : Claim7 := { stood := { row := sheetTicksRow, standIns := [], harness := (true, "9c6eb029d6082cabac06c190ebd65ca5cbd8a042b20c7029fd42d5d89c799ba4"), looks := true }, kinds := [], alts := [], laidByText := true, laidKinds := [.data, .data, .data, .data, .pinned, .pinned], laidTests := true, laidLooks := .later }
def SheetTicksCardSaid : Prop := Claim7.holds Tryz.pinned (.plain (OpenSpec.ofChange sheetTicksSpec)) sheetTicksCard

/-- THE TIED CARD OF 'ramparttop.TopStates'. -/
def topStatesCard : Claim7 := { stood := { row := topStatesRow, standIns := [], harness := (true, "9c6eb029d6082cabac06c190ebd65ca5cbd8a042b20c7029fd42d5d89c799ba4"), looks := true }, kinds := [], alts := [], laidByText := true, laidKinds := [.data, .pinned, .pinned], laidTests := true, laidLooks := .later }
def TopStatesCardSaid : Prop := Claim7.holds Tryz.pinned (.plain (OpenSpec.ofChange topStatesSpec)) topStatesCard

/-- THE SECOND FORM's CARD OF 'rampartlaw25.EngineReloads'. -/
def engineReloadsUptoCard : Claim7 := { stood := { row := engineReloadsUptoRow, standIns := [], harness := (true, "9c6eb029d6082cabac06c190ebd65ca5cbd8a042b20c7029fd42d5d89c799ba4"), looks := true }, kinds := [], alts := [], laidByText := true, laidKinds := [.data, .pinned, .pinned], laidTests := true, laidLooks := .later }
def EngineReloadsUptoCardSaid : Prop := Claim7.holds Tryz.pinned (.plain (OpenSpec.upto engineReloadsSpec)) engineReloadsUptoCard

/-- THE SECOND FORM's CARD OF 'rampartlaw25.EngineStops'. -/
def engineStopsUptoCard : Claim7 := { stood := { row := engineStopsUptoRow, standIns := [], harness := (true, "9c6eb029d6082cabac06c190ebd65ca5cbd8a042b20c7029fd42d5d89c799ba4"), looks := true }, kinds := [], alts := [], laidByText := true, laidKinds := [.data, .pinned, .pinned], laidTests := true, laidLooks := .later }
def EngineStopsUptoCardSaid : Prop := Claim7.holds Tryz.pinned (.plain (OpenSpec.upto engineStopsSpec)) engineStopsUptoCard

/-- THE SECOND FORM's CARD OF 'rampartlaw25.EngineDatagrams'. -/
def engineDatagramsUptoCard : Claim7 := { stood := { row := engineDatagramsUptoRow, standIns := [], harness := (true, "9c6eb029d6082cabac06c190ebd65ca5cbd8a042b20c7029fd42d5d89c799ba4"), looks := true }, kinds := [], alts := [], laidByText := true, laidKinds := [.data, .pinned, .pinned], laidTests := true, laidLooks := .later }
def EngineDatagramsUptoCardSaid : Prop := Claim7.holds Tryz.pinned (.plain (OpenSpec.upto engineDatagramsSpec)) engineDatagramsUptoCard

/-- THE SECOND FORM's CARD OF 'rampartlaw25.EngineBlocks'. -/
def engineBlocksUptoCard : Claim7 := { stood := { row := engineBlocksUptoRow, standIns := [], harness := (true, "9c6eb029d6082cabac06c190ebd65ca5cbd8a042b20c7029fd42d5d89c799ba4"), looks := true }, kinds := [], alts := [], laidByText := true, laidKinds := [.data, .pinned, .pinned], laidTests := true, laidLooks := .later }
def EngineBlocksUptoCardSaid : Prop := Claim7.holds Tryz.pinned (.plain (OpenSpec.upto engineBlocksSpec)) engineBlocksUptoCard

/-- THE SECOND FORM's CARD OF 'rampartlaw26.PlayMost'. -/
def playMostUptoCard : Claim7 := { stood := { row := playMostUptoRow, standIns := [], harness := (true, "9c6eb029d6082cabac06c190ebd65ca5cbd8a042b20c7029fd42d5d89c799ba4"), looks := true }, kinds := [], alts := [], laidByText := true, laidKinds := [.data, .pinned, .pinned], laidTests := true, laidLooks := .later }
def PlayMostUptoCardSaid : Prop := Claim7.holds Tryz.pinned (.plain (OpenSpec.upto playMostSpec)) playMostUptoCard

/-- THE SECOND FORM's CARD OF 'rampartlaw28.SheetTells'. -/
def sheetTellsUptoCard : Claim7 := { stood := { row := sheetTellsUptoRow, standIns := [], harness := (true, "9c6eb029d6082cabac06c190ebd65ca5cbd8a042b20c7029fd42d5d89c799ba4"), looks := true }, kinds := [], alts := [], laidByText := true, laidKinds := [.data, .data, .data, .data, .pinned, .pinned], laidTests := true, laidLooks := .later }
def SheetTellsUptoCardSaid : Prop := Claim7.holds Tryz.pinned (.plain (OpenSpec.upto sheetTellsSpec)) sheetTellsUptoCard

/-- THE SECOND FORM's CARD OF 'rampartlaw28.SheetErrors'. -/
def sheetErrorsUptoCard : Claim7 := { stood := { row := sheetErrorsUptoRow, standIns := [], harness := (true, "9c6eb029d6082cabac06c190ebd65ca5cbd8a042b20c7029fd42d5d89c799ba4"), looks := true }, kinds := [], alts := [], laidByText := true, laidKinds := [.data, .data, .data, .data, .pinned, .pinned], laidTests := true, laidLooks := .later }
def SheetErrorsUptoCardSaid : Prop := Claim7.holds Tryz.pinned (.plain (OpenSpec.upto sheetErrorsSpec)) sheetErrorsUptoCard

/-- THE SECOND FORM's CARD OF 'rampartlaw28.SheetTicks'. -/
def sheetTicksUptoCard : Claim7 := { stood := { row := sheetTicksUptoRow, standIns := [], harness := (true, "9c6eb029d6082cabac06c190ebd65ca5cbd8a042b20c7029fd42d5d89c799ba4"), looks := true }, kinds := [], alts := [], laidByText := true, laidKinds := [.data, .data, .data, .data, .pinned, .pinned], laidTests := true, laidLooks := .later }
def SheetTicksUptoCardSaid : Prop := Claim7.holds Tryz.pinned (.plain (OpenSpec.upto sheetTicksSpec)) sheetTicksUptoCard

/-- THE SECOND FORM's CARD OF 'ramparttop.TopStates'. -/
def topStatesUptoCard : Claim7 := { stood := { row := topStatesUptoRow, standIns := [], harness := (true, "9c6eb029d6082cabac06c190ebd65ca5cbd8a042b20c7029fd42d5d89c799ba4"), looks := true }, kinds := [], alts := [], laidByText := true, laidKinds := [.data, .pinned, .pinned], laidTests := true, laidLooks := .later }
def TopStatesUptoCardSaid : Prop := Claim7.holds Tryz.pinned (.plain (OpenSpec.upto topStatesSpec)) topStatesUptoCard
end Rows
end Go.Proofs.YtjaammiblfndaaaGreatDoor
