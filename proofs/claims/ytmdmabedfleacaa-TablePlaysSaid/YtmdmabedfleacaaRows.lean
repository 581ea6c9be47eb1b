/-
  No cell of these rows narrows 'for every input' (looked for: loops, veiled, ifaces, maps, wideKeys, modest, calm, conditions, laid).
  DERIVED. THE GIVEN ROWS OF THIS SEAT. 7 by the template 'for every input the law returns true; each argument reads behind the call as it read before'; 0 by the template 'total and deterministic' (their statements: YtmdmabedfleacaaTotals.lean).
  GIVEN WITH THE SEED: the statements are not yours to turn. If you find one false, say at which input.
  Laid BY PROGRAM, IN A SANDBOX (cutbox-rows.mjs): the forced cells as the released guide's own fill.sh prints them over the translation bc07cb43dc5315f3… (all of the seat's roots in one cut). By AI agents, Wed Nov 11 2026. No macro, syntax, notation, axiom, sorry.
-/
import Derived.Test.YtmdmabedfleacaaChecked
import GoSem.Claim
import GoSem.ClaimJoined
import GoSem.ClaimMapViews
import Derived.JoinedTies
import Derived.KernelRfl
namespace Go.Proofs.Ytmdmabedfleacaa
/- THE CELL 'sum', in the pinned program and in every row, IS THE sha256 OF THE DUMP (.gsa) THAT YtmdmabedfleacaaProg.lean LOADS. Nothing in Lean hashes anything: it is a label: what it is worth is what the hold of that sum in a sandbox is worth. -/
noncomputable def Try.pinned : Pinned := { name := "ytmdmabedfleacaa", sum := "bc07cb43dc5315f347d9b25cc29a4a516acc8b62b75ac76e7c75da9f083323ac", checked := Try.checked }
namespace Rows
def none {H : Type} : Left H := { results := [], args := [] }

/-- 'rampartlaw22.TableLasts': WHATEVER THE INPUT: true; the input reads as it did. -/
def tableLastsSpec : ChangeSpec := { name := "tableLasts", fn := fun _ => fun
  | [d1, d2] => { results := [.lit (.bool true)], args := [d1, d2] }
  | _ => none }
def tableLastsRow : OpenClaim := { program := "ytmdmabedfleacaa", sum := "bc07cb43dc5315f347d9b25cc29a4a516acc8b62b75ac76e7c75da9f083323ac", func := "rampart/rampartlaw22.TableLasts", spec := "tableLasts", plainKeys := false, apart := false }
def TableLastsSaid : Prop := tableLastsRow.holds Try.pinned (OpenSpec.ofChange tableLastsSpec)

/-- ITS FALSE NEIGHBOUR: 'it returns false'. Refute it at one input. -/
def tableLastsWrong : ChangeSpec := { name := "tableLasts", fn := fun _ => fun
  | [d1, d2] => { results := [.lit (.bool false)], args := [d1, d2] }
  | _ => none }
def TableLastsWrongFalsely : Prop := tableLastsRow.holds Try.pinned (OpenSpec.ofChange tableLastsWrong)

/-- 'rampartlaw23.BlocksMany': WHATEVER THE INPUT: true; the input reads as it did. -/
def blocksManySpec : ChangeSpec := { name := "blocksMany", fn := fun _ => fun
  | [d1, d2] => { results := [.lit (.bool true)], args := [d1, d2] }
  | _ => none }
def blocksManyRow : OpenClaim := { program := "ytmdmabedfleacaa", sum := "bc07cb43dc5315f347d9b25cc29a4a516acc8b62b75ac76e7c75da9f083323ac", func := "rampart/rampartlaw23.BlocksMany", spec := "blocksMany", unfollowed := true, recurses := true, plainKeys := false, apart := false }
def BlocksManySaid : Prop := blocksManyRow.holds Try.pinned (OpenSpec.ofChange blocksManySpec)

/-- ITS FALSE NEIGHBOUR: 'it returns false'. Refute it at one input. -/
def blocksManyWrong : ChangeSpec := { name := "blocksMany", fn := fun _ => fun
  | [d1, d2] => { results := [.lit (.bool false)], args := [d1, d2] }
  | _ => none }
def BlocksManyWrongFalsely : Prop := blocksManyRow.holds Try.pinned (OpenSpec.ofChange blocksManyWrong)

/-- 'rampartlaw23.BlocksPlays': WHATEVER THE INPUT: true; the input reads as it did. -/
def blocksPlaysSpec : ChangeSpec := { name := "blocksPlays", fn := fun _ => fun
  | [d1, d2] => { results := [.lit (.bool true)], args := [d1, d2] }
  | _ => none }
def blocksPlaysRow : OpenClaim := { program := "ytmdmabedfleacaa", sum := "bc07cb43dc5315f347d9b25cc29a4a516acc8b62b75ac76e7c75da9f083323ac", func := "rampart/rampartlaw23.BlocksPlays", spec := "blocksPlays", unfollowed := true, recurses := true, plainKeys := false, apart := false }
def BlocksPlaysSaid : Prop := blocksPlaysRow.holds Try.pinned (OpenSpec.ofChange blocksPlaysSpec)

/-- ITS FALSE NEIGHBOUR: 'it returns false'. Refute it at one input. -/
def blocksPlaysWrong : ChangeSpec := { name := "blocksPlays", fn := fun _ => fun
  | [d1, d2] => { results := [.lit (.bool false)], args := [d1, d2] }
  | _ => none }
def BlocksPlaysWrongFalsely : Prop := blocksPlaysRow.holds Try.pinned (OpenSpec.ofChange blocksPlaysWrong)

/-- 'rampartlaw23.BlocksAgain': WHATEVER THE INPUT: true; the input reads as it did. -/
def blocksAgainSpec : ChangeSpec := { name := "blocksAgain", fn := fun _ => fun
  | [d1, d2, d3] => { results := [.lit (.bool true)], args := [d1, d2, d3] }
  | _ => none }
def blocksAgainRow : OpenClaim := { program := "ytmdmabedfleacaa", sum := "bc07cb43dc5315f347d9b25cc29a4a516acc8b62b75ac76e7c75da9f083323ac", func := "rampart/rampartlaw23.BlocksAgain", spec := "blocksAgain", unfollowed := true, recurses := true, plainKeys := false, apart := false }
def BlocksAgainSaid : Prop := blocksAgainRow.holds Try.pinned (OpenSpec.ofChange blocksAgainSpec)

/-- ITS FALSE NEIGHBOUR: 'it returns false'. Refute it at one input. -/
def blocksAgainWrong : ChangeSpec := { name := "blocksAgain", fn := fun _ => fun
  | [d1, d2, d3] => { results := [.lit (.bool false)], args := [d1, d2, d3] }
  | _ => none }
def BlocksAgainWrongFalsely : Prop := blocksAgainRow.holds Try.pinned (OpenSpec.ofChange blocksAgainWrong)

/-- 'rampartlaw22.TableTurns': WHATEVER THE INPUT: true; the input reads as it did. -/
def tableTurnsSpec : ChangeSpec := { name := "tableTurns", fn := fun _ => fun
  | [d1, d2] => { results := [.lit (.bool true)], args := [d1, d2] }
  | _ => none }
def tableTurnsRow : OpenClaim := { program := "ytmdmabedfleacaa", sum := "bc07cb43dc5315f347d9b25cc29a4a516acc8b62b75ac76e7c75da9f083323ac", func := "rampart/rampartlaw22.TableTurns", spec := "tableTurns", unfollowed := true, recurses := true, plainKeys := false, apart := false }
def TableTurnsSaid : Prop := tableTurnsRow.holds Try.pinned (OpenSpec.ofChange tableTurnsSpec)

/-- ITS FALSE NEIGHBOUR: 'it returns false'. Refute it at one input. -/
def tableTurnsWrong : ChangeSpec := { name := "tableTurns", fn := fun _ => fun
  | [d1, d2] => { results := [.lit (.bool false)], args := [d1, d2] }
  | _ => none }
def TableTurnsWrongFalsely : Prop := tableTurnsRow.holds Try.pinned (OpenSpec.ofChange tableTurnsWrong)

/-- 'rampartlaw22.TableTicks': WHATEVER THE INPUT: true; the input reads as it did. -/
def tableTicksSpec : ChangeSpec := { name := "tableTicks", fn := fun _ => fun
  | [d1, d2, d3] => { results := [.lit (.bool true)], args := [d1, d2, d3] }
  | _ => none }
def tableTicksRow : OpenClaim := { program := "ytmdmabedfleacaa", sum := "bc07cb43dc5315f347d9b25cc29a4a516acc8b62b75ac76e7c75da9f083323ac", func := "rampart/rampartlaw22.TableTicks", spec := "tableTicks", unfollowed := true, recurses := true, plainKeys := false, apart := false }
def TableTicksSaid : Prop := tableTicksRow.holds Try.pinned (OpenSpec.ofChange tableTicksSpec)

/-- ITS FALSE NEIGHBOUR: 'it returns false'. Refute it at one input. -/
def tableTicksWrong : ChangeSpec := { name := "tableTicks", fn := fun _ => fun
  | [d1, d2, d3] => { results := [.lit (.bool false)], args := [d1, d2, d3] }
  | _ => none }
def TableTicksWrongFalsely : Prop := tableTicksRow.holds Try.pinned (OpenSpec.ofChange tableTicksWrong)

/-- 'rampartlaw22.TablePlays': WHATEVER THE INPUT: true; the input reads as it did. -/
def tablePlaysSpec : ChangeSpec := { name := "tablePlays", fn := fun _ => fun
  | [d1, d2, d3] => { results := [.lit (.bool true)], args := [d1, d2, d3] }
  | _ => none }
def tablePlaysRow : OpenClaim := { program := "ytmdmabedfleacaa", sum := "bc07cb43dc5315f347d9b25cc29a4a516acc8b62b75ac76e7c75da9f083323ac", func := "rampart/rampartlaw22.TablePlays", spec := "tablePlays", unfollowed := true, recurses := true, plainKeys := false, apart := false }
def TablePlaysSaid : Prop := tablePlaysRow.holds Try.pinned (OpenSpec.ofChange tablePlaysSpec)

/-- ITS FALSE NEIGHBOUR: 'it returns false'. Refute it at one input. -/
def tablePlaysWrong : ChangeSpec := { name := "tablePlays", fn := fun _ => fun
  | [d1, d2, d3] => { results := [.lit (.bool false)], args := [d1, d2, d3] }
  | _ => none }
def TablePlaysWrongFalsely : Prop := tablePlaysRow.holds Try.pinned (OpenSpec.ofChange tablePlaysWrong)

/- THE SECOND FORM. 'bulk': how many values and letters a reading holds, each counted each time it is reached (what is shared counts as often as it is met; a slice's spare places count too). A statement '..UptoSaid' is the law's where the arguments, and the package variables that the reading takes, are together of bulk at most 1048576: NARROWER than '..Said'. Prove '..Said' where nothing that the law and all that it calls make is longer than what came in: it says more and counts as full. Else prove '..UptoSaid'. A law counts once. -/
mutual
def uptoBulk {H : Type} : DataW H → Nat
  | .lit (.string bytes) => bytes.length + 1
  | .lit _ => 1
  | .nil => 1
  | .ptr d => uptoBulk d + 1
  | .slice elems spare => uptoBulkAll elems + uptoBulkAll spare + 1
  | .agg parts => uptoBulkAll parts + 1
  | .iface _ d => uptoBulk d + 1
  | .map entries => uptoBulkEntries entries + 1
  | .held _ => 1
def uptoBulkAll {H : Type} : List (DataW H) → Nat
  | [] => 0
  | d :: r => uptoBulk d + uptoBulkAll r
def uptoBulkEntries {H : Type} : List (Lit × DataW H) → Nat
  | [] => 0
  | x :: r => uptoBulkEntry x + uptoBulkEntries r
def uptoBulkEntry {H : Type} : Lit × DataW H → Nat
  | (.string bytes, d) => bytes.length + uptoBulk d + 1
  | (_, d) => uptoBulk d + 1
 end
def uptoSmall : (H : Type) → List (DataW H) → Bool := fun _ ds => decide (uptoBulkAll ds ≤ 1048576)
def OpenSpec.upto (s : _root_.Go.ChangeSpec) : _root_.Go.OpenSpec := { _root_.Go.OpenSpec.ofChange s with cond := some uptoSmall }

/-- 'rampartlaw22.TableLasts', WHERE WHAT IT READS IS OF BULK AT MOST 1048576: true; the input reads as it did. -/
def tableLastsUptoRow : OpenClaim := { program := "ytmdmabedfleacaa", sum := "bc07cb43dc5315f347d9b25cc29a4a516acc8b62b75ac76e7c75da9f083323ac", func := "rampart/rampartlaw22.TableLasts", spec := "tableLasts", plainKeys := false, apart := false, narrowed := true }
def TableLastsUptoSaid : Prop := tableLastsUptoRow.holds Try.pinned (OpenSpec.upto tableLastsSpec)

/-- 'rampartlaw23.BlocksMany', WHERE WHAT IT READS IS OF BULK AT MOST 1048576: true; the input reads as it did. -/
def blocksManyUptoRow : OpenClaim := { program := "ytmdmabedfleacaa", sum := "bc07cb43dc5315f347d9b25cc29a4a516acc8b62b75ac76e7c75da9f083323ac", func := "rampart/rampartlaw23.BlocksMany", spec := "blocksMany", unfollowed := true, recurses := true, plainKeys := false, apart := false, narrowed := true }
def BlocksManyUptoSaid : Prop := blocksManyUptoRow.holds Try.pinned (OpenSpec.upto blocksManySpec)

/-- 'rampartlaw23.BlocksPlays', WHERE WHAT IT READS IS OF BULK AT MOST 1048576: true; the input reads as it did. -/
def blocksPlaysUptoRow : OpenClaim := { program := "ytmdmabedfleacaa", sum := "bc07cb43dc5315f347d9b25cc29a4a516acc8b62b75ac76e7c75da9f083323ac", func := "rampart/rampartlaw23.BlocksPlays", spec := "blocksPlays", unfollowed := true, recurses := true, plainKeys := false, apart := false, narrowed := true }
def BlocksPlaysUptoSaid : Prop := blocksPlaysUptoRow.holds Try.pinned (OpenSpec.upto blocksPlaysSpec)

/-- 'rampartlaw23.BlocksAgain', WHERE WHAT IT READS IS OF BULK AT MOST 1048576: true; the input reads as it did. -/
def blocksAgainUptoRow : OpenClaim := { program := "ytmdmabedfleacaa", sum := "bc07cb43dc5315f347d9b25cc29a4a516acc8b62b75ac76e7c75da9f083323ac", func := "rampart/rampartlaw23.BlocksAgain", spec := "blocksAgain", unfollowed := true, recurses := true, plainKeys := false, apart := false, narrowed := true }
def BlocksAgainUptoSaid : Prop := blocksAgainUptoRow.holds Try.pinned (OpenSpec.upto blocksAgainSpec)

/-- 'rampartlaw22.TableTurns', WHERE WHAT IT READS IS OF BULK AT MOST 1048576: true; the input reads as it did. -/
def tableTurnsUptoRow : OpenClaim := { program := "ytmdmabedfleacaa", sum := "bc07cb43dc5315f347d9b25cc29a4a516acc8b62b75ac76e7c75da9f083323ac", func := "rampart/rampartlaw22.TableTurns", spec := "tableTurns", unfollowed := true, recurses := true, plainKeys := false, apart := false, narrowed := true }
def TableTurnsUptoSaid : Prop := tableTurnsUptoRow.holds Try.pinned (OpenSpec.upto tableTurnsSpec)

/-- 'rampartlaw22.TableTicks', WHERE WHAT IT READS IS OF BULK AT MOST 1048576: true; the input reads as it did. -/
def tableTicksUptoRow : OpenClaim := { program := "ytmdmabedfleacaa", sum := "bc07cb43dc5315f347d9b25cc29a4a516acc8b62b75ac76e7c75da9f083323ac", func := "rampart/rampartlaw22.TableTicks", spec := "tableTicks", unfollowed := true, recurses := true, plainKeys := false, apart := false, narrowed := true }
def TableTicksUptoSaid : Prop := tableTicksUptoRow.holds Try.pinned (OpenSpec.upto tableTicksSpec)

/-- 'rampartlaw22.TablePlays', WHERE WHAT IT READS IS OF BULK AT MOST 1048576: true; the input reads as it did. -/
def tablePlaysUptoRow : OpenClaim := { program := "ytmdmabedfleacaa", sum := "bc07cb43dc5315f347d9b25cc29a4a516acc8b62b75ac76e7c75da9f083323ac", func := "rampart/rampartlaw22.TablePlays", spec := "tablePlays", unfollowed := true, recurses := true, plainKeys := false, apart := false, narrowed := true }
def TablePlaysUptoSaid : Prop := tablePlaysUptoRow.holds Try.pinned (OpenSpec.upto tablePlaysSpec)

end Rows
end Go.Proofs.Ytmdmabedfleacaa
