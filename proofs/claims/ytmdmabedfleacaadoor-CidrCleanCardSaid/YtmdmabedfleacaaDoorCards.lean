/-
  DERIVED. GIVEN WITH THE SEED: THE CARDS: each row of YtmdmabedfleacaaDoorRows.lean that lists a variable, with what it lists TIED to the program's text (the seventh form; the later family's looks); each row that meets fmt, with fmt's text TOLD by the authors' own Lean function (tested against real Go, not proved from fmt's source: count such statements apart). THE CARD IS WHAT COUNTS. Prove the row's statement (the work); the ties are given (YtmdmabedfleacaaDoorTie.lean); close each card by the builder's one call (the guide's Derived/Test/ToyasCard.lean, 'card_holds'). Laid BY PROGRAM, IN A SANDBOX (cutbox-door.mjs). By AI agents, Wed Nov 11 2026. No macro, syntax, notation, axiom, sorry.
-/
import Derived.Test.YtmdmabedfleacaaDoorRows
import GoSem.ClaimSeven
namespace Go.Proofs.YtmdmabedfleacaaDoor
namespace Rows

/-- THE TIED CARD OF 'rampartlaw21.TupleTexts'. -/
def tupleTextsCard : Claim7 := { stood := { row := tupleTextsRow, standIns := [], harness := (true, "90f0cff97c3e2846c1b9b4cb664f6aa26d253756cadc2df01719c45910e89461"), looks := false }, kinds := [], alts := [], laidByText := true, laidKinds := [.data, .data, .data], laidTests := true, laidLooks := .later }
def TupleTextsCardSaid : Prop := Claim7.holds Tryd.pinned (.plain (OpenSpec.ofChange tupleTextsSpec)) tupleTextsCard

/-- THE TIED CARD OF 'rampartlaw21.TupleAll'. -/
def tupleAllCard : Claim7 := { stood := { row := tupleAllRow, standIns := [], harness := (true, "90f0cff97c3e2846c1b9b4cb664f6aa26d253756cadc2df01719c45910e89461"), looks := false }, kinds := [], alts := [], laidByText := true, laidKinds := [.data, .data, .data], laidTests := true, laidLooks := .later }
def TupleAllCardSaid : Prop := Claim7.holds Tryd.pinned (.plain (OpenSpec.ofChange tupleAllSpec)) tupleAllCard

/-- THE TIED CARD OF 'rampartlaw21.TupleTurns'. -/
def tupleTurnsCard : Claim7 := { stood := { row := tupleTurnsRow, standIns := [], harness := (true, "90f0cff97c3e2846c1b9b4cb664f6aa26d253756cadc2df01719c45910e89461"), looks := false }, kinds := [], alts := [], laidByText := true, laidKinds := [.data, .data, .data], laidTests := true, laidLooks := .later }
def TupleTurnsCardSaid : Prop := Claim7.holds Tryd.pinned (.plain (OpenSpec.ofChange tupleTurnsSpec)) tupleTurnsCard

/-- THE TIED CARD OF 'rampartlaw21.TupleNone'. -/
def tupleNoneCard : Claim7 := { stood := { row := tupleNoneRow, standIns := [], harness := (true, "90f0cff97c3e2846c1b9b4cb664f6aa26d253756cadc2df01719c45910e89461"), looks := false }, kinds := [], alts := [], laidByText := true, laidKinds := [.data, .data, .data], laidTests := true, laidLooks := .later }
def TupleNoneCardSaid : Prop := Claim7.holds Tryd.pinned (.plain (OpenSpec.ofChange tupleNoneSpec)) tupleNoneCard

/-- THE TIED CARD OF 'rampartlaw09.CidrAll'. -/
def cidrAllCard : Claim7 := { stood := { row := cidrAllRow, standIns := [], harness := (true, "90f0cff97c3e2846c1b9b4cb664f6aa26d253756cadc2df01719c45910e89461"), looks := false }, kinds := [], alts := [], laidByText := true, laidKinds := [.data, .data, .data], laidTests := true, laidLooks := .later }
def CidrAllCardSaid : Prop := Claim7.holds Tryd.pinned (.plain (OpenSpec.ofChange cidrAllSpec)) cidrAllCard

/-- THE TIED CARD OF 'rampartlaw09.CidrClean'. -/
def cidrCleanCard : Claim7 := { stood := { row := cidrCleanRow, standIns := [], harness := (true, "90f0cff97c3e2846c1b9b4cb664f6aa26d253756cadc2df01719c45910e89461"), looks := false }, kinds := [], alts := [], laidByText := true, laidKinds := [.data, .data, .data], laidTests := true, laidLooks := .later }
def CidrCleanCardSaid : Prop := Claim7.holds Tryd.pinned (.plain (OpenSpec.ofChange cidrCleanSpec)) cidrCleanCard

/-- THE TIED CARD OF 'rampartlaw09.CidrNets'. -/
def cidrNetsCard : Claim7 := { stood := { row := cidrNetsRow, standIns := [], harness := (true, "90f0cff97c3e2846c1b9b4cb664f6aa26d253756cadc2df01719c45910e89461"), looks := false }, kinds := [], alts := [], laidByText := true, laidKinds := [.data, .data, .data], laidTests := true, laidLooks := .later }
def CidrNetsCardSaid : Prop := Claim7.holds Tryd.pinned (.plain (OpenSpec.ofChange cidrNetsSpec)) cidrNetsCard

/-- THE TIED CARD OF 'rampartlaw09.CidrMany'. -/
def cidrManyCard : Claim7 := { stood := { row := cidrManyRow, standIns := [], harness := (true, "90f0cff97c3e2846c1b9b4cb664f6aa26d253756cadc2df01719c45910e89461"), looks := false }, kinds := [], alts := [], laidByText := true, laidKinds := [.data, .data, .data], laidTests := true, laidLooks := .later }
def CidrManyCardSaid : Prop := Claim7.holds Tryd.pinned (.plain (OpenSpec.ofChange cidrManySpec)) cidrManyCard

/-- THE TIED CARD OF 'rampartlaw09.CidrDotted'. -/
def cidrDottedCard : Claim7 := { stood := { row := cidrDottedRow, standIns := [], harness := (true, "90f0cff97c3e2846c1b9b4cb664f6aa26d253756cadc2df01719c45910e89461"), looks := false }, kinds := [], alts := [], laidByText := true, laidKinds := [.data, .data, .data], laidTests := true, laidLooks := .later }
def CidrDottedCardSaid : Prop := Claim7.holds Tryd.pinned (.plain (OpenSpec.ofChange cidrDottedSpec)) cidrDottedCard

/-- THE SECOND FORM's CARD OF 'rampartlaw21.TupleTexts'. -/
def tupleTextsUptoCard : Claim7 := { stood := { row := tupleTextsUptoRow, standIns := [], harness := (true, "90f0cff97c3e2846c1b9b4cb664f6aa26d253756cadc2df01719c45910e89461"), looks := false }, kinds := [], alts := [], laidByText := true, laidKinds := [.data, .data, .data], laidTests := true, laidLooks := .later }
def TupleTextsUptoCardSaid : Prop := Claim7.holds Tryd.pinned (.plain (OpenSpec.upto tupleTextsSpec)) tupleTextsUptoCard

/-- THE SECOND FORM's CARD OF 'rampartlaw21.TupleAll'. -/
def tupleAllUptoCard : Claim7 := { stood := { row := tupleAllUptoRow, standIns := [], harness := (true, "90f0cff97c3e2846c1b9b4cb664f6aa26d253756cadc2df01719c45910e89461"), looks := false }, kinds := [], alts := [], laidByText := true, laidKinds := [.data, .data, .data], laidTests := true, laidLooks := .later }
def TupleAllUptoCardSaid : Prop := Claim7.holds Tryd.pinned (.plain (OpenSpec.upto tupleAllSpec)) tupleAllUptoCard

/-- THE SECOND FORM's CARD OF 'rampartlaw21.TupleTurns'. -/
def tupleTurnsUptoCard : Claim7 := { stood := { row := tupleTurnsUptoRow, standIns := [], harness := (true, "90f0cff97c3e2846c1b9b4cb664f6aa26d253756cadc2df01719c45910e89461"), looks := false }, kinds := [], alts := [], laidByText := true, laidKinds := [.data, .data, .data], laidTests := true, laidLooks := .later }
def TupleTurnsUptoCardSaid : Prop := Claim7.holds Tryd.pinned (.plain (OpenSpec.upto tupleTurnsSpec)) tupleTurnsUptoCard

/-- THE SECOND FORM's CARD OF 'rampartlaw21.TupleNone'. -/
def tupleNoneUptoCard : Claim7 := { stood := { row := tupleNoneUptoRow, standIns := [], harness := (true, "90f0cff97c3e2846c1b9b4cb664f6aa26d253756cadc2df01719c45910e89461"), looks := false }, kinds := [], alts := [], laidByText := true, laidKinds := [.data, .data, .data], laidTests := true, laidLooks := .later }
def TupleNoneUptoCardSaid : Prop := Claim7.holds Tryd.pinned (.plain (OpenSpec.upto tupleNoneSpec)) tupleNoneUptoCard

/-- THE SECOND FORM's CARD OF 'rampartlaw09.CidrAll'. -/
def cidrAllUptoCard : Claim7 := { stood := { row := cidrAllUptoRow, standIns := [], harness := (true, "90f0cff97c3e2846c1b9b4cb664f6aa26d253756cadc2df01719c45910e89461"), looks := false }, kinds := [], alts := [], laidByText := true, laidKinds := [.data, .data, .data], laidTests := true, laidLooks := .later }
def CidrAllUptoCardSaid : Prop := Claim7.holds Tryd.pinned (.plain (OpenSpec.upto cidrAllSpec)) cidrAllUptoCard

/-- THE SECOND FORM's CARD OF 'rampartlaw09.CidrClean'. -/
def cidrCleanUptoCard : Claim7 := { stood := { row := cidrCleanUptoRow, standIns := [], harness := (true, "90f0cff97c3e2846c1b9b4cb664f6aa26d253756cadc2df01719c45910e89461"), looks := false }, kinds := [], alts := [], laidByText := true, laidKinds := [.data, .data, .data], laidTests := true, laidLooks := .later }
def CidrCleanUptoCardSaid : Prop := Claim7.holds Tryd.pinned (.plain (OpenSpec.upto cidrCleanSpec)) cidrCleanUptoCard

/-- THE SECOND FORM's CARD OF 'rampartlaw09.CidrNets'. -/
def cidrNetsUptoCard : Claim7 := { stood := { row := cidrNetsUptoRow, standIns := [], harness := (true, "90f0cff97c3e2846c1b9b4cb664f6aa26d253756cadc2df01719c45910e89461"), looks := false }, kinds := [], alts := [], laidByText := true, laidKinds := [.data, .data, .data], laidTests := true, laidLooks := .later }
def CidrNetsUptoCardSaid : Prop := Claim7.holds Tryd.pinned (.plain (OpenSpec.upto cidrNetsSpec)) cidrNetsUptoCard

/-- THE SECOND FORM's CARD OF 'rampartlaw09.CidrMany'. -/
def cidrManyUptoCard : Claim7 := { stood := { row := cidrManyUptoRow, standIns := [], harness := (true, "90f0cff97c3e2846c1b9b4cb664f6aa26d253756cadc2df01719c45910e89461"), looks := false }, kinds := [], alts := [], laidByText := true, laidKinds := [.data, .data, .data], laidTests := true, laidLooks := .later }
def CidrManyUptoCardSaid : Prop := Claim7.holds Tryd.pinned (.plain (OpenSpec.upto cidrManySpec)) cidrManyUptoCard

/-- THE SECOND FORM's CARD OF 'rampartlaw09.CidrDotted'. -/
def cidrDottedUptoCard : Claim7 := { stood := { row := cidrDottedUptoRow, standIns := [], harness := (true, "90f0cff97c3e2846c1b9b4cb664f6aa26d253756cadc2df01719c45910e89461"), looks := false }, kinds := [], alts := [], laidByText := true, laidKinds := [.data, .data, .data], laidTests := true, laidLooks := .later }
def CidrDottedUptoCardSaid : Prop := Claim7.holds Tryd.pinned (.plain (OpenSpec.upto cidrDottedSpec)) cidrDottedUptoCard
end Rows
end Go.Proofs.YtmdmabedfleacaaDoor
