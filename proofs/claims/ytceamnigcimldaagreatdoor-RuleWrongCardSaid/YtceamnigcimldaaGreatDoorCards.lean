/-
  DERIVED. GIVEN WITH THE SEED: THE CARDS: each row of YtceamnigcimldaaGreatDoorRows.lean that lists a variable, with what it lists TIED to the program's text (the seventh form; the later family's looks); each row that meets fmt, with fmt's text TOLD by the authors' own Lean function (tested against real Go, not proved from fmt's source: count such statements apart). THE CARD IS WHAT COUNTS. Prove the row's statement (the work); the ties are given (YtceamnigcimldaaGreatDoorTie.lean); close each card by the builder's one call (the guide's Derived/Test/ToyasCard.lean, 'card_holds'). Laid BY PROGRAM, IN A SANDBOX (cutbox-door.mjs). By AI agents, Wed Nov 11 2026. No macro, syntax, notation, axiom, sorry.
-/
import Derived.Test.YtceamnigcimldaaGreatDoorRows
import GoSem.ClaimSeven
namespace Go.Proofs.YtceamnigcimldaaGreatDoor
namespace Rows

/-- THE TIED CARD OF 'rampartlaw12.PrintAll'. -/
def printAllCard : Claim7 := { stood := { row := printAllRow, standIns := [], harness := (true, "a38cfcd90b19c719d671f091de655ab478411af7fbf1c1ce560c1c16373a76c9"), looks := true }, kinds := [], alts := [], laidByText := true, laidKinds := [.data, .data, .data], laidTests := true, laidLooks := .later }
def PrintAllCardSaid : Prop := Claim7.holds Tryz.pinned (.plain (OpenSpec.ofChange printAllSpec)) printAllCard

/-- THE TIED CARD OF 'rampartlaw11.RuleParses'. -/
def ruleParsesCard : Claim7 := { stood := { row := ruleParsesRow, standIns := [], harness := (true, "a38cfcd90b19c719d671f091de655ab478411af7fbf1c1ce560c1c16373a76c9"), looks := true }, kinds := [], alts := [], laidByText := true, laidKinds := [.data, .pinned, .pinned], laidTests := true, laidLooks := .later }
def RuleParsesCardSaid : Prop := Claim7.holds Tryz.pinned (.plain (OpenSpec.ofChange ruleParsesSpec)) ruleParsesCard

/-- THE TIED CARD OF 'rampartlaw11.RuleWrong'. -/
def ruleWrongCard : Claim7 := { stood := { row := ruleWrongRow, standIns := [], harness := (true, "a38cfcd90b19c719d671f091de655ab478411af7fbf1c1ce560c1c16373a76c9"), looks := true }, kinds := [], alts := [], laidByText := true, laidKinds := [.data, .pinned, .pinned], laidTests := true, laidLooks := .later }
def RuleWrongCardSaid : Prop := Claim7.holds Tryz.pinned (.plain (OpenSpec.ofChange ruleWrongSpec)) ruleWrongCard

/-- THE TIED CARD OF 'rampartlaw11.RuleOptions'. -/
def ruleOptionsCard : Claim7 := { stood := { row := ruleOptionsRow, standIns := [], harness := (true, "a38cfcd90b19c719d671f091de655ab478411af7fbf1c1ce560c1c16373a76c9"), looks := true }, kinds := [], alts := [], laidByText := true, laidKinds := [.data, .pinned, .pinned], laidTests := true, laidLooks := .later }
def RuleOptionsCardSaid : Prop := Claim7.holds Tryz.pinned (.plain (OpenSpec.ofChange ruleOptionsSpec)) ruleOptionsCard

/-- THE TIED CARD OF 'rampartlaw11.RuleVars'. -/
def ruleVarsCard : Claim7 := { stood := { row := ruleVarsRow, standIns := [], harness := (true, "a38cfcd90b19c719d671f091de655ab478411af7fbf1c1ce560c1c16373a76c9"), looks := true }, kinds := [], alts := [], laidByText := true, laidKinds := [.data, .pinned, .pinned], laidTests := true, laidLooks := .later }
def RuleVarsCardSaid : Prop := Claim7.holds Tryz.pinned (.plain (OpenSpec.ofChange ruleVarsSpec)) ruleVarsCard

/-- THE TIED CARD OF 'rampartlaw11.RuleMany'. -/
def ruleManyCard : Claim7 := { stood := { row := ruleManyRow, standIns := [], harness := (true, "a38cfcd90b19c719d671f091de655ab478411af7fbf1c1ce560c1c16373a76c9"), looks := true }, kinds := [], alts := [], laidByText := true, laidKinds := [.data, .pinned, .pinned], laidTests := true, laidLooks := .later }
def RuleManyCardSaid : Prop := Claim7.holds Tryz.pinned (.plain (OpenSpec.ofChange ruleManySpec)) ruleManyCard

/-- THE TIED CARD OF 'rampartlaw11.RuleChecks'. -/
def ruleChecksCard : Claim7 := { stood := { row := ruleChecksRow, standIns := [], harness := (true, "a38cfcd90b19c719d671f091de655ab478411af7fbf1c1ce560c1c16373a76c9"), looks := true }, kinds := [], alts := [], laidByText := true, laidKinds := [.data, .pinned, .pinned], laidTests := true, laidLooks := .later }
def RuleChecksCardSaid : Prop := Claim7.holds Tryz.pinned (.plain (OpenSpec.ofChange ruleChecksSpec)) ruleChecksCard

/-- THE TIED CARD OF 'rampartlaw11.RuleTexts'. -/
def ruleTextsCard : Claim7 := { stood := { row := ruleTextsRow, standIns := [], harness := (true, "a38cfcd90b19c719d671f091de655ab478411af7fbf1c1ce560c1c16373a76c9"), looks := true }, kinds := [], alts := [], laidByText := true, laidKinds := [.data, .pinned, .pinned], laidTests := true, laidLooks := .later }
def RuleTextsCardSaid : Prop := Claim7.holds Tryz.pinned (.plain (OpenSpec.ofChange ruleTextsSpec)) ruleTextsCard

/-- THE TIED CARD OF 'rampartlaw12.PrintBytes'. -/
def printBytesCard : Claim7 := { stood := { row := printBytesRow, standIns := [], harness := (true, "a38cfcd90b19c719d671f091de655ab478411af7fbf1c1ce560c1c16373a76c9"), looks := true }, kinds := [], alts := [], laidByText := true, laidKinds := [.data, .data, .data, .data, .pinned, .pinned], laidTests := true, laidLooks := .later }
def PrintBytesCardSaid : Prop := Claim7.holds Tryz.pinned (.plain (OpenSpec.ofChange printBytesSpec)) printBytesCard

/-- THE TIED CARD OF 'rampartlaw12.PrintBack'. -/
def printBackCard : Claim7 := { stood := { row := printBackRow, standIns := [], harness := (true, "a38cfcd90b19c719d671f091de655ab478411af7fbf1c1ce560c1c16373a76c9"), looks := true }, kinds := [], alts := [], laidByText := true, laidKinds := [.data, .data, .data, .data, .pinned, .pinned], laidTests := true, laidLooks := .later }
def PrintBackCardSaid : Prop := Claim7.holds Tryz.pinned (.plain (OpenSpec.ofChange printBackSpec)) printBackCard

/-- THE SECOND FORM's CARD OF 'rampartlaw12.PrintAll'. -/
def printAllUptoCard : Claim7 := { stood := { row := printAllUptoRow, standIns := [], harness := (true, "a38cfcd90b19c719d671f091de655ab478411af7fbf1c1ce560c1c16373a76c9"), looks := true }, kinds := [], alts := [], laidByText := true, laidKinds := [.data, .data, .data], laidTests := true, laidLooks := .later }
def PrintAllUptoCardSaid : Prop := Claim7.holds Tryz.pinned (.plain (OpenSpec.upto printAllSpec)) printAllUptoCard

/-- THE SECOND FORM's CARD OF 'rampartlaw11.RuleParses'. -/
def ruleParsesUptoCard : Claim7 := { stood := { row := ruleParsesUptoRow, standIns := [], harness := (true, "a38cfcd90b19c719d671f091de655ab478411af7fbf1c1ce560c1c16373a76c9"), looks := true }, kinds := [], alts := [], laidByText := true, laidKinds := [.data, .pinned, .pinned], laidTests := true, laidLooks := .later }
def RuleParsesUptoCardSaid : Prop := Claim7.holds Tryz.pinned (.plain (OpenSpec.upto ruleParsesSpec)) ruleParsesUptoCard

/-- THE SECOND FORM's CARD OF 'rampartlaw11.RuleWrong'. -/
def ruleWrongUptoCard : Claim7 := { stood := { row := ruleWrongUptoRow, standIns := [], harness := (true, "a38cfcd90b19c719d671f091de655ab478411af7fbf1c1ce560c1c16373a76c9"), looks := true }, kinds := [], alts := [], laidByText := true, laidKinds := [.data, .pinned, .pinned], laidTests := true, laidLooks := .later }
def RuleWrongUptoCardSaid : Prop := Claim7.holds Tryz.pinned (.plain (OpenSpec.upto ruleWrongSpec)) ruleWrongUptoCard

/-- THE SECOND FORM's CARD OF 'rampartlaw11.RuleOptions'. -/
def ruleOptionsUptoCard : Claim7 := { stood := { row := ruleOptionsUptoRow, standIns := [], harness := (true, "a38cfcd90b19c719d671f091de655ab478411af7fbf1c1ce560c1c16373a76c9"), looks := true }, kinds := [], alts := [], laidByText := true, laidKinds := [.data, .pinned, .pinned], laidTests := true, laidLooks := .later }
def RuleOptionsUptoCardSaid : Prop := Claim7.holds Tryz.pinned (.plain (OpenSpec.upto ruleOptionsSpec)) ruleOptionsUptoCard

/-- THE SECOND FORM's CARD OF 'rampartlaw11.RuleVars'. -/
def ruleVarsUptoCard : Claim7 := { stood := { row := ruleVarsUptoRow, standIns := [], harness := (true, "a38cfcd90b19c719d671f091de655ab478411af7fbf1c1ce560c1c16373a76c9"), looks := true }, kinds := [], alts := [], laidByText := true, laidKinds := [.data, .pinned, .pinned], laidTests := true, laidLooks := .later }
def RuleVarsUptoCardSaid : Prop := Claim7.holds Tryz.pinned (.plain (OpenSpec.upto ruleVarsSpec)) ruleVarsUptoCard

/-- THE SECOND FORM's CARD OF 'rampartlaw11.RuleMany'. -/
def ruleManyUptoCard : Claim7 := { stood := { row := ruleManyUptoRow, standIns := [], harness := (true, "a38cfcd90b19c719d671f091de655ab478411af7fbf1c1ce560c1c16373a76c9"), looks := true }, kinds := [], alts := [], laidByText := true, laidKinds := [.data, .pinned, .pinned], laidTests := true, laidLooks := .later }
def RuleManyUptoCardSaid : Prop := Claim7.holds Tryz.pinned (.plain (OpenSpec.upto ruleManySpec)) ruleManyUptoCard

/-- THE SECOND FORM's CARD OF 'rampartlaw11.RuleChecks'. -/
def ruleChecksUptoCard : Claim7 := { stood := { row := ruleChecksUptoRow, standIns := [], harness := (true, "a38cfcd90b19c719d671f091de655ab478411af7fbf1c1ce560c1c16373a76c9"), looks := true }, kinds := [], alts := [], laidByText := true, laidKinds := [.data, .pinned, .pinned], laidTests := true, laidLooks := .later }
def RuleChecksUptoCardSaid : Prop := Claim7.holds Tryz.pinned (.plain (OpenSpec.upto ruleChecksSpec)) ruleChecksUptoCard

/-- THE SECOND FORM's CARD OF 'rampartlaw11.RuleTexts'. -/
def ruleTextsUptoCard : Claim7 := { stood := { row := ruleTextsUptoRow, standIns := [], harness := (true, "a38cfcd90b19c719d671f091de655ab478411af7fbf1c1ce560c1c16373a76c9"), looks := true }, kinds := [], alts := [], laidByText := true, laidKinds := [.data, .pinned, .pinned], laidTests := true, laidLooks := .later }
def RuleTextsUptoCardSaid : Prop := Claim7.holds Tryz.pinned (.plain (OpenSpec.upto ruleTextsSpec)) ruleTextsUptoCard

/-- THE SECOND FORM's CARD OF 'rampartlaw12.PrintBytes'. -/
def printBytesUptoCard : Claim7 := { stood := { row := printBytesUptoRow, standIns := [], harness := (true, "a38cfcd90b19c719d671f091de655ab478411af7fbf1c1ce560c1c16373a76c9"), looks := true }, kinds := [], alts := [], laidByText := true, laidKinds := [.data, .data, .data, .data, .pinned, .pinned], laidTests := true, laidLooks := .later }
def PrintBytesUptoCardSaid : Prop := Claim7.holds Tryz.pinned (.plain (OpenSpec.upto printBytesSpec)) printBytesUptoCard

/-- THE SECOND FORM's CARD OF 'rampartlaw12.PrintBack'. -/
def printBackUptoCard : Claim7 := { stood := { row := printBackUptoRow, standIns := [], harness := (true, "a38cfcd90b19c719d671f091de655ab478411af7fbf1c1ce560c1c16373a76c9"), looks := true }, kinds := [], alts := [], laidByText := true, laidKinds := [.data, .data, .data, .data, .pinned, .pinned], laidTests := true, laidLooks := .later }
def PrintBackUptoCardSaid : Prop := Claim7.holds Tryz.pinned (.plain (OpenSpec.upto printBackSpec)) printBackUptoCard
end Rows
end Go.Proofs.YtceamnigcimldaaGreatDoor
