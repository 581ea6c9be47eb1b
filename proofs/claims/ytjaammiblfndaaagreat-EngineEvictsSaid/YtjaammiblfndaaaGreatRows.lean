/-
  No cell of these rows narrows 'for every input' (looked for: loops, veiled, ifaces, maps, wideKeys, modest, calm, conditions, laid).
  DERIVED. THE GIVEN ROWS OF THIS SEAT. 6 by the template 'for every input the law returns true; each argument reads behind the call as it read before'; 0 by the template 'total and deterministic' (their statements: YtjaammiblfndaaaGreatTotals.lean).
  GIVEN WITH THE SEED: the statements are not yours to turn. If you find one false, say at which input.
  Laid BY PROGRAM, IN A SANDBOX (cutbox-rows.mjs): the forced cells as the released guide's own fill.sh prints them over the translation e4be84c706669389… (all of the seat's roots in one cut). By AI agents, Wed Nov 11 2026. No macro, syntax, notation, axiom, sorry.
-/
import Derived.Test.YtjaammiblfndaaaGreatChecked
import GoSem.Claim
import GoSem.ClaimJoined
import GoSem.ClaimMapViews
import Derived.JoinedTies
import Derived.KernelRfl
namespace Go.Proofs.YtjaammiblfndaaaGreat
/- THE CELL 'sum', in the pinned program and in every row, IS THE sha256 OF THE DUMP (.gsa) THAT YtjaammiblfndaaaGreatProg.lean LOADS. Nothing in Lean hashes anything: it is a label: what it is worth is what the hold of that sum in a sandbox is worth. -/
noncomputable def Tryz.pinned : Pinned := { name := "ytjaammiblfndaaagreat", sum := "e4be84c70666938953d9790e032371cee624a0952c5b6d1b3058c3880eb266e2", checked := Tryz.checked }
namespace Rows
def none {H : Type} : Left H := { results := [], args := [] }

/-- 'rampartlaw25.EngineAgain': WHATEVER THE INPUT: true; the input reads as it did. -/
def engineAgainSpec : ChangeSpec := { name := "engineAgain", fn := fun _ => fun
  | [d1, d2, d3] => { results := [.lit (.bool true)], args := [d1, d2, d3] }
  | _ => none }
def engineAgainRow : OpenClaim := { program := "ytjaammiblfndaaagreat", sum := "e4be84c70666938953d9790e032371cee624a0952c5b6d1b3058c3880eb266e2", func := "rampart/rampartlaw25.EngineAgain", spec := "engineAgain", unfollowed := true, recurses := true, plainKeys := false, apart := false }
def EngineAgainSaid : Prop := engineAgainRow.holds Tryz.pinned (OpenSpec.ofChange engineAgainSpec)

/-- ITS FALSE NEIGHBOUR: 'it returns false'. Refute it at one input. -/
def engineAgainWrong : ChangeSpec := { name := "engineAgain", fn := fun _ => fun
  | [d1, d2, d3] => { results := [.lit (.bool false)], args := [d1, d2, d3] }
  | _ => none }
def EngineAgainWrongFalsely : Prop := engineAgainRow.holds Tryz.pinned (OpenSpec.ofChange engineAgainWrong)

/-- 'rampartlaw25.EngineOpens': WHATEVER THE INPUT: true; the input reads as it did. -/
def engineOpensSpec : ChangeSpec := { name := "engineOpens", fn := fun _ => fun
  | [d1, d2, d3] => { results := [.lit (.bool true)], args := [d1, d2, d3] }
  | _ => none }
def engineOpensRow : OpenClaim := { program := "ytjaammiblfndaaagreat", sum := "e4be84c70666938953d9790e032371cee624a0952c5b6d1b3058c3880eb266e2", func := "rampart/rampartlaw25.EngineOpens", spec := "engineOpens", unfollowed := true, recurses := true, plainKeys := false, apart := false }
def EngineOpensSaid : Prop := engineOpensRow.holds Tryz.pinned (OpenSpec.ofChange engineOpensSpec)

/-- ITS FALSE NEIGHBOUR: 'it returns false'. Refute it at one input. -/
def engineOpensWrong : ChangeSpec := { name := "engineOpens", fn := fun _ => fun
  | [d1, d2, d3] => { results := [.lit (.bool false)], args := [d1, d2, d3] }
  | _ => none }
def EngineOpensWrongFalsely : Prop := engineOpensRow.holds Tryz.pinned (OpenSpec.ofChange engineOpensWrong)

/-- 'rampartlaw25.EngineCloses': WHATEVER THE INPUT: true; the input reads as it did. -/
def engineClosesSpec : ChangeSpec := { name := "engineCloses", fn := fun _ => fun
  | [d1, d2] => { results := [.lit (.bool true)], args := [d1, d2] }
  | _ => none }
def engineClosesRow : OpenClaim := { program := "ytjaammiblfndaaagreat", sum := "e4be84c70666938953d9790e032371cee624a0952c5b6d1b3058c3880eb266e2", func := "rampart/rampartlaw25.EngineCloses", spec := "engineCloses", unfollowed := true, recurses := true, plainKeys := false, apart := false }
def EngineClosesSaid : Prop := engineClosesRow.holds Tryz.pinned (OpenSpec.ofChange engineClosesSpec)

/-- ITS FALSE NEIGHBOUR: 'it returns false'. Refute it at one input. -/
def engineClosesWrong : ChangeSpec := { name := "engineCloses", fn := fun _ => fun
  | [d1, d2] => { results := [.lit (.bool false)], args := [d1, d2] }
  | _ => none }
def EngineClosesWrongFalsely : Prop := engineClosesRow.holds Tryz.pinned (OpenSpec.ofChange engineClosesWrong)

/-- 'rampartlaw25.EngineEvicts': WHATEVER THE INPUT: true; the input reads as it did. -/
def engineEvictsSpec : ChangeSpec := { name := "engineEvicts", fn := fun _ => fun
  | [d1, d2] => { results := [.lit (.bool true)], args := [d1, d2] }
  | _ => none }
def engineEvictsRow : OpenClaim := { program := "ytjaammiblfndaaagreat", sum := "e4be84c70666938953d9790e032371cee624a0952c5b6d1b3058c3880eb266e2", func := "rampart/rampartlaw25.EngineEvicts", spec := "engineEvicts", unfollowed := true, recurses := true, plainKeys := false, apart := false }
def EngineEvictsSaid : Prop := engineEvictsRow.holds Tryz.pinned (OpenSpec.ofChange engineEvictsSpec)

/-- ITS FALSE NEIGHBOUR: 'it returns false'. Refute it at one input. -/
def engineEvictsWrong : ChangeSpec := { name := "engineEvicts", fn := fun _ => fun
  | [d1, d2] => { results := [.lit (.bool false)], args := [d1, d2] }
  | _ => none }
def EngineEvictsWrongFalsely : Prop := engineEvictsRow.holds Tryz.pinned (OpenSpec.ofChange engineEvictsWrong)

/-- 'rampartlaw25.EngineHolds': WHATEVER THE INPUT: true; the input reads as it did. -/
def engineHoldsSpec : ChangeSpec := { name := "engineHolds", fn := fun _ => fun
  | [d1, d2, d3] => { results := [.lit (.bool true)], args := [d1, d2, d3] }
  | _ => none }
def engineHoldsRow : OpenClaim := { program := "ytjaammiblfndaaagreat", sum := "e4be84c70666938953d9790e032371cee624a0952c5b6d1b3058c3880eb266e2", func := "rampart/rampartlaw25.EngineHolds", spec := "engineHolds", unfollowed := true, recurses := true, plainKeys := false, apart := false }
def EngineHoldsSaid : Prop := engineHoldsRow.holds Tryz.pinned (OpenSpec.ofChange engineHoldsSpec)

/-- ITS FALSE NEIGHBOUR: 'it returns false'. Refute it at one input. -/
def engineHoldsWrong : ChangeSpec := { name := "engineHolds", fn := fun _ => fun
  | [d1, d2, d3] => { results := [.lit (.bool false)], args := [d1, d2, d3] }
  | _ => none }
def EngineHoldsWrongFalsely : Prop := engineHoldsRow.holds Tryz.pinned (OpenSpec.ofChange engineHoldsWrong)

/-- 'rampartlaw25.EngineParts': WHATEVER THE INPUT: true; the input reads as it did. -/
def enginePartsSpec : ChangeSpec := { name := "engineParts", fn := fun _ => fun
  | [d1, d2, d3] => { results := [.lit (.bool true)], args := [d1, d2, d3] }
  | _ => none }
def enginePartsRow : OpenClaim := { program := "ytjaammiblfndaaagreat", sum := "e4be84c70666938953d9790e032371cee624a0952c5b6d1b3058c3880eb266e2", func := "rampart/rampartlaw25.EngineParts", spec := "engineParts", unfollowed := true, recurses := true, plainKeys := false, apart := false }
def EnginePartsSaid : Prop := enginePartsRow.holds Tryz.pinned (OpenSpec.ofChange enginePartsSpec)

/-- ITS FALSE NEIGHBOUR: 'it returns false'. Refute it at one input. -/
def enginePartsWrong : ChangeSpec := { name := "engineParts", fn := fun _ => fun
  | [d1, d2, d3] => { results := [.lit (.bool false)], args := [d1, d2, d3] }
  | _ => none }
def EnginePartsWrongFalsely : Prop := enginePartsRow.holds Tryz.pinned (OpenSpec.ofChange enginePartsWrong)

/- THE SECOND FORM. 'bulk': how many values and letters a reading holds, each counted each time it is reached (what is shared counts as often as it is met; a slice's spare places count too). A statement '..UptoSaid' is the law's where the arguments, and the package variables that the reading takes, are together of bulk at most 1048576: NARROWER than '..Said'. Prove '..Said' where nothing that the law and all that it calls make is longer than what came in: it says more and counts as full. Else prove '..UptoSaid'. A law counts once. -/
mutual
def uptoBulk {H : Type} : DataW H → Nat
  | .lit (.string bytes) => bytes.length + 1
  | .lit _ => 1
  | .nil => 1
  | .ptr d => uptoBulk d + 1
  | .slice elems spare => uptoBulkAll elems + uptoBulkAll spare + 1
  | .agg parts => uptoBulkAll parts + 1
  | .iface _ d => uptoBulk d + 1
  | .map entries => uptoBulkEntries entries + 1
  | .held _ => 1
def uptoBulkAll {H : Type} : List (DataW H) → Nat
  | [] => 0
  | d :: r => uptoBulk d + uptoBulkAll r
def uptoBulkEntries {H : Type} : List (Lit × DataW H) → Nat
  | [] => 0
  | x :: r => uptoBulkEntry x + uptoBulkEntries r
def uptoBulkEntry {H : Type} : Lit × DataW H → Nat
  | (.string bytes, d) => bytes.length + uptoBulk d + 1
  | (_, d) => uptoBulk d + 1
 end
def uptoSmall : (H : Type) → List (DataW H) → Bool := fun _ ds => decide (uptoBulkAll ds ≤ 1048576)
def OpenSpec.upto (s : _root_.Go.ChangeSpec) : _root_.Go.OpenSpec := { _root_.Go.OpenSpec.ofChange s with cond := some uptoSmall }

/-- 'rampartlaw25.EngineAgain', WHERE WHAT IT READS IS OF BULK AT MOST 1048576: true; the input reads as it did. -/
def engineAgainUptoRow : OpenClaim := { program := "ytjaammiblfndaaagreat", sum := "e4be84c70666938953d9790e032371cee624a0952c5b6d1b3058c3880eb266e2", func := "rampart/rampartlaw25.EngineAgain", spec := "engineAgain", unfollowed := true, recurses := true, plainKeys := false, apart := false, narrowed := true }
def EngineAgainUptoSaid : Prop := engineAgainUptoRow.holds Tryz.pinned (OpenSpec.upto engineAgainSpec)

/-- 'rampartlaw25.EngineOpens', WHERE WHAT IT READS IS OF BULK AT MOST 1048576: true; the input reads as it did. -/
def engineOpensUptoRow : OpenClaim := { program := "ytjaammiblfndaaagreat", sum := "e4be84c70666938953d9790e032371cee624a0952c5b6d1b3058c3880eb266e2", func := "rampart/rampartlaw25.EngineOpens", spec := "engineOpens", unfollowed := true, recurses := true, plainKeys := false, apart := false, narrowed := true }
def EngineOpensUptoSaid : Prop := engineOpensUptoRow.holds Tryz.pinned (OpenSpec.upto engineOpensSpec)

/-- 'rampartlaw25.EngineCloses', WHERE WHAT IT READS IS OF BULK AT MOST 1048576: true; the input reads as it did. -/
def engineClosesUptoRow : OpenClaim := { program := "ytjaammiblfndaaagreat", sum := "e4be84c70666938953d9790e032371cee624a0952c5b6d1b3058c3880eb266e2", func := "rampart/rampartlaw25.EngineCloses", spec := "engineCloses", unfollowed := true, recurses := true, plainKeys := false, apart := false, narrowed := true }
def EngineClosesUptoSaid : Prop := engineClosesUptoRow.holds Tryz.pinned (OpenSpec.upto engineClosesSpec)

/-- 'rampartlaw25.EngineEvicts', WHERE WHAT IT READS IS OF BULK AT MOST 1048576: true; the input reads as it did. -/
def engineEvictsUptoRow : OpenClaim := { program := "ytjaammiblfndaaagreat", sum := "e4be84c70666938953d9790e032371cee624a0952c5b6d1b3058c3880eb266e2", func := "rampart/rampartlaw25.EngineEvicts", spec := "engineEvicts", unfollowed := true, recurses := true, plainKeys := false, apart := false, narrowed := true }
def EngineEvictsUptoSaid : Prop := engineEvictsUptoRow.holds Tryz.pinned (OpenSpec.upto engineEvictsSpec)

/-- 'rampartlaw25.EngineHolds', WHERE WHAT IT READS IS OF BULK AT MOST 1048576: true; the input reads as it did. -/
def engineHoldsUptoRow : OpenClaim := { program := "ytjaammiblfndaaagreat", sum := "e4be84c70666938953d9790e032371cee624a0952c5b6d1b3058c3880eb266e2", func := "rampart/rampartlaw25.EngineHolds", spec := "engineHolds", unfollowed := true, recurses := true, plainKeys := false, apart := false, narrowed := true }
def EngineHoldsUptoSaid : Prop := engineHoldsUptoRow.holds Tryz.pinned (OpenSpec.upto engineHoldsSpec)

/-- 'rampartlaw25.EngineParts', WHERE WHAT IT READS IS OF BULK AT MOST 1048576: true; the input reads as it did. -/
def enginePartsUptoRow : OpenClaim := { program := "ytjaammiblfndaaagreat", sum := "e4be84c70666938953d9790e032371cee624a0952c5b6d1b3058c3880eb266e2", func := "rampart/rampartlaw25.EngineParts", spec := "engineParts", unfollowed := true, recurses := true, plainKeys := false, apart := false, narrowed := true }
def EnginePartsUptoSaid : Prop := enginePartsUptoRow.holds Tryz.pinned (OpenSpec.upto enginePartsSpec)

end Rows
end Go.Proofs.YtjaammiblfndaaaGreat
