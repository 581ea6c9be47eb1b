/-
  DERIVED. GIVEN WITH THE SEED: THE CARDS: each row of YtceamnigcimldaaDoorRows.lean that lists a variable, with what it lists TIED to the program's text (the seventh form; the later family's looks); each row that meets fmt, with fmt's text TOLD by the authors' own Lean function (tested against real Go, not proved from fmt's source: count such statements apart). THE CARD IS WHAT COUNTS. Prove the row's statement (the work); the ties are given (YtceamnigcimldaaDoorTie.lean); close each card by the builder's one call (the guide's Derived/Test/ToyasCard.lean, 'card_holds'). Laid BY PROGRAM, IN A SANDBOX (cutbox-door.mjs). By AI agents, Wed Nov 11 2026. No macro, syntax, notation, axiom, sorry.
-/
import Derived.Test.YtceamnigcimldaaDoorRows
import GoSem.ClaimSeven
namespace Go.Proofs.YtceamnigcimldaaDoor
namespace Rows

/-- THE TIED CARD OF 'rampartlaw10.PortsAll'. -/
def portsAllCard : Claim7 := { stood := { row := portsAllRow, standIns := [], harness := (true, "94ffd6386b32cd6baa222282a5bf7b1d1ee61d4bbba6f5d520205fb12a5383f8"), looks := false }, kinds := [], alts := [], laidByText := true, laidKinds := [.data, .data, .data], laidTests := true, laidLooks := .later }
def PortsAllCardSaid : Prop := Claim7.holds Tryd.pinned (.plain (OpenSpec.ofChange portsAllSpec)) portsAllCard

/-- THE TIED CARD OF 'rampartlaw10.PortsClean'. -/
def portsCleanCard : Claim7 := { stood := { row := portsCleanRow, standIns := [], harness := (true, "94ffd6386b32cd6baa222282a5bf7b1d1ee61d4bbba6f5d520205fb12a5383f8"), looks := false }, kinds := [], alts := [], laidByText := true, laidKinds := [.data, .data, .data], laidTests := true, laidLooks := .later }
def PortsCleanCardSaid : Prop := Claim7.holds Tryd.pinned (.plain (OpenSpec.ofChange portsCleanSpec)) portsCleanCard

/-- THE TIED CARD OF 'rampartlaw10.PortsSpans'. -/
def portsSpansCard : Claim7 := { stood := { row := portsSpansRow, standIns := [], harness := (true, "94ffd6386b32cd6baa222282a5bf7b1d1ee61d4bbba6f5d520205fb12a5383f8"), looks := false }, kinds := [], alts := [], laidByText := true, laidKinds := [.data, .data, .data], laidTests := true, laidLooks := .later }
def PortsSpansCardSaid : Prop := Claim7.holds Tryd.pinned (.plain (OpenSpec.ofChange portsSpansSpec)) portsSpansCard

/-- THE TIED CARD OF 'rampartlaw10.PortsTexts'. -/
def portsTextsCard : Claim7 := { stood := { row := portsTextsRow, standIns := [], harness := (true, "94ffd6386b32cd6baa222282a5bf7b1d1ee61d4bbba6f5d520205fb12a5383f8"), looks := false }, kinds := [], alts := [], laidByText := true, laidKinds := [.data, .data, .data], laidTests := true, laidLooks := .later }
def PortsTextsCardSaid : Prop := Claim7.holds Tryd.pinned (.plain (OpenSpec.ofChange portsTextsSpec)) portsTextsCard

/-- THE TIED CARD OF 'rampartlaw12.PrintNumbers'. -/
def printNumbersCard : Claim7 := { stood := { row := printNumbersRow, standIns := [], harness := (true, "94ffd6386b32cd6baa222282a5bf7b1d1ee61d4bbba6f5d520205fb12a5383f8"), looks := false }, kinds := [], alts := [], laidByText := true, laidKinds := [.data, .data, .data], laidTests := true, laidLooks := .later }
def PrintNumbersCardSaid : Prop := Claim7.holds Tryd.pinned (.plain (OpenSpec.ofChange printNumbersSpec)) printNumbersCard

/-- THE SECOND FORM's CARD OF 'rampartlaw10.PortsAll'. -/
def portsAllUptoCard : Claim7 := { stood := { row := portsAllUptoRow, standIns := [], harness := (true, "94ffd6386b32cd6baa222282a5bf7b1d1ee61d4bbba6f5d520205fb12a5383f8"), looks := false }, kinds := [], alts := [], laidByText := true, laidKinds := [.data, .data, .data], laidTests := true, laidLooks := .later }
def PortsAllUptoCardSaid : Prop := Claim7.holds Tryd.pinned (.plain (OpenSpec.upto portsAllSpec)) portsAllUptoCard

/-- THE SECOND FORM's CARD OF 'rampartlaw10.PortsClean'. -/
def portsCleanUptoCard : Claim7 := { stood := { row := portsCleanUptoRow, standIns := [], harness := (true, "94ffd6386b32cd6baa222282a5bf7b1d1ee61d4bbba6f5d520205fb12a5383f8"), looks := false }, kinds := [], alts := [], laidByText := true, laidKinds := [.data, .data, .data], laidTests := true, laidLooks := .later }
def PortsCleanUptoCardSaid : Prop := Claim7.holds Tryd.pinned (.plain (OpenSpec.upto portsCleanSpec)) portsCleanUptoCard

/-- THE SECOND FORM's CARD OF 'rampartlaw10.PortsSpans'. -/
def portsSpansUptoCard : Claim7 := { stood := { row := portsSpansUptoRow, standIns := [], harness := (true, "94ffd6386b32cd6baa222282a5bf7b1d1ee61d4bbba6f5d520205fb12a5383f8"), looks := false }, kinds := [], alts := [], laidByText := true, laidKinds := [.data, .data, .data], laidTests := true, laidLooks := .later }
def PortsSpansUptoCardSaid : Prop := Claim7.holds Tryd.pinned (.plain (OpenSpec.upto portsSpansSpec)) portsSpansUptoCard

/-- THE SECOND FORM's CARD OF 'rampartlaw10.PortsTexts'. -/
def portsTextsUptoCard : Claim7 := { stood := { row := portsTextsUptoRow, standIns := [], harness := (true, "94ffd6386b32cd6baa222282a5bf7b1d1ee61d4bbba6f5d520205fb12a5383f8"), looks := false }, kinds := [], alts := [], laidByText := true, laidKinds := [.data, .data, .data], laidTests := true, laidLooks := .later }
def PortsTextsUptoCardSaid : Prop := Claim7.holds Tryd.pinned (.plain (OpenSpec.upto portsTextsSpec)) portsTextsUptoCard

/-- THE SECOND FORM's CARD OF 'rampartlaw12.PrintNumbers'. -/
def printNumbersUptoCard : Claim7 := { stood := { row := printNumbersUptoRow, standIns := [], harness := (true, "94ffd6386b32cd6baa222282a5bf7b1d1ee61d4bbba6f5d520205fb12a5383f8"), looks := false }, kinds := [], alts := [], laidByText := true, laidKinds := [.data, .data, .data], laidTests := true, laidLooks := .later }
def PrintNumbersUptoCardSaid : Prop := Claim7.holds Tryd.pinned (.plain (OpenSpec.upto printNumbersSpec)) printNumbersUptoCard
end Rows
end Go.Proofs.YtceamnigcimldaaDoor
