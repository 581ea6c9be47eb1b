/-
  NARROWER THAN 'FOR EVERY INPUT', by the rows' own cells (each row's printed sentence says how): TupleTexts: laid · TupleAll: laid · TupleTurns: laid · TupleNone: laid · CidrAll: laid · CidrClean: laid · CidrNets: laid · CidrMany: laid · CidrDotted: laid.
  DERIVED. THE GIVEN ROWS OF THIS SEAT. 9 by the template 'for every input the law returns true; each argument reads behind the call as it read before'; 0 by the template 'total and deterministic' (their statements: YtmdmabedfleacaaDoorTotals.lean).
  GIVEN WITH THE SEED: the statements are not yours to turn. If you find one false, say at which input.
  Laid BY PROGRAM, IN A SANDBOX (cutbox-rows.mjs): the forced cells as the released guide's own fill.sh prints them over the translation 783f2a5c05a88ae1… (all of the seat's roots in one cut). By AI agents, Wed Nov 11 2026. No macro, syntax, notation, axiom, sorry.
-/
import Derived.Test.YtmdmabedfleacaaDoorChecked
import GoSem.Claim
import GoSem.ClaimJoined
import GoSem.ClaimMapViews
import Derived.JoinedTies
import Derived.KernelRfl
namespace Go.Proofs.YtmdmabedfleacaaDoor
/- THE CELL 'sum', in the pinned program and in every row, IS THE sha256 OF THE DUMP (.gsa) THAT YtmdmabedfleacaaDoorProg.lean LOADS. Nothing in Lean hashes anything: it is a label: what it is worth is what the hold of that sum in a sandbox is worth. -/
noncomputable def Tryd.pinned : Pinned := { name := "ytmdmabedfleacaadoor", sum := "783f2a5c05a88ae11a72f6589ff1f3d5de0d533897f731919410cd5cf1276dba", checked := Tryd.checked }
namespace Rows
def none {H : Type} : Left H := { results := [], args := [] }

/- WHAT THE LISTED PACKAGE-LEVEL VARIABLES READ AS WHEN THE CALL BEGINS. Each datum BY PROGRAM (the guide's laid-datum.mjs) off the statement by which the dump's own 'gosem.cut.vars' lays the variable. In a bare row this is a premise. The card (YtmdmabedfleacaaDoorCards.lean) ties it to the program's text. -/
def laid_math_bits_deBruijn32tab {H : Type} : DataW H := .agg [.lit (.int .u8 0), .lit (.int .u8 1), .lit (.int .u8 28), .lit (.int .u8 2), .lit (.int .u8 29), .lit (.int .u8 14), .lit (.int .u8 24), .lit (.int .u8 3), .lit (.int .u8 30), .lit (.int .u8 22), .lit (.int .u8 20), .lit (.int .u8 15), .lit (.int .u8 25), .lit (.int .u8 17), .lit (.int .u8 4), .lit (.int .u8 8), .lit (.int .u8 31), .lit (.int .u8 27), .lit (.int .u8 13), .lit (.int .u8 23), .lit (.int .u8 21), .lit (.int .u8 19), .lit (.int .u8 16), .lit (.int .u8 7), .lit (.int .u8 26), .lit (.int .u8 12), .lit (.int .u8 18), .lit (.int .u8 6), .lit (.int .u8 11), .lit (.int .u8 5), .lit (.int .u8 10), .lit (.int .u8 9)]
def laid_math_bits_deBruijn64tab {H : Type} : DataW H := .agg [.lit (.int .u8 0), .lit (.int .u8 1), .lit (.int .u8 56), .lit (.int .u8 2), .lit (.int .u8 57), .lit (.int .u8 49), .lit (.int .u8 28), .lit (.int .u8 3), .lit (.int .u8 61), .lit (.int .u8 58), .lit (.int .u8 42), .lit (.int .u8 50), .lit (.int .u8 38), .lit (.int .u8 29), .lit (.int .u8 17), .lit (.int .u8 4), .lit (.int .u8 62), .lit (.int .u8 47), .lit (.int .u8 59), .lit (.int .u8 36), .lit (.int .u8 45), .lit (.int .u8 43), .lit (.int .u8 51), .lit (.int .u8 22), .lit (.int .u8 53), .lit (.int .u8 39), .lit (.int .u8 33), .lit (.int .u8 30), .lit (.int .u8 24), .lit (.int .u8 18), .lit (.int .u8 12), .lit (.int .u8 5), .lit (.int .u8 63), .lit (.int .u8 55), .lit (.int .u8 48), .lit (.int .u8 27), .lit (.int .u8 60), .lit (.int .u8 41), .lit (.int .u8 37), .lit (.int .u8 16), .lit (.int .u8 46), .lit (.int .u8 35), .lit (.int .u8 44), .lit (.int .u8 21), .lit (.int .u8 52), .lit (.int .u8 32), .lit (.int .u8 23), .lit (.int .u8 11), .lit (.int .u8 54), .lit (.int .u8 26), .lit (.int .u8 40), .lit (.int .u8 15), .lit (.int .u8 34), .lit (.int .u8 20), .lit (.int .u8 31), .lit (.int .u8 10), .lit (.int .u8 25), .lit (.int .u8 14), .lit (.int .u8 19), .lit (.int .u8 9), .lit (.int .u8 13), .lit (.int .u8 8), .lit (.int .u8 7), .lit (.int .u8 6)]
def laid_internal_strconv_uint64pow10 {H : Type} : DataW H := .agg [.lit (.int .u64 1), .lit (.int .u64 10), .lit (.int .u64 100), .lit (.int .u64 1000), .lit (.int .u64 10000), .lit (.int .u64 100000), .lit (.int .u64 1000000), .lit (.int .u64 10000000), .lit (.int .u64 100000000), .lit (.int .u64 1000000000), .lit (.int .u64 10000000000), .lit (.int .u64 100000000000), .lit (.int .u64 1000000000000), .lit (.int .u64 10000000000000), .lit (.int .u64 100000000000000), .lit (.int .u64 1000000000000000), .lit (.int .u64 10000000000000000), .lit (.int .u64 100000000000000000), .lit (.int .u64 1000000000000000000), .lit (.int .u64 10000000000000000000)]

/-- 'rampartlaw21.TupleTexts': WHATEVER THE INPUT: true; the input reads as it did. -/
def tupleTextsSpec : ChangeSpec := { name := "tupleTexts", fn := fun _ => fun
  | [d1, d2, d3, d4] => { results := [.lit (.bool true)], args := [d1, d2, d3, d4] }
  | _ => none }
def tupleTextsRow : OpenClaim := { program := "ytmdmabedfleacaadoor", sum := "783f2a5c05a88ae11a72f6589ff1f3d5de0d533897f731919410cd5cf1276dba", func := "rampart/rampartlaw21.TupleTexts", spec := "tupleTexts", inPlace := ["internal/abi.NoEscape", "internal/bytealg.MakeNoZero"], named := ["internal/strconv.uint64pow10", "math/bits.deBruijn32tab", "math/bits.deBruijn64tab"], apart := false, laid := [("math/bits.deBruijn32tab", laid_math_bits_deBruijn32tab), ("math/bits.deBruijn64tab", laid_math_bits_deBruijn64tab), ("internal/strconv.uint64pow10", laid_internal_strconv_uint64pow10)] }
def TupleTextsSaid : Prop := tupleTextsRow.holds Tryd.pinned (OpenSpec.ofChange tupleTextsSpec)

/-- ITS FALSE NEIGHBOUR: 'it returns false'. Refute it at one input. -/
def tupleTextsWrong : ChangeSpec := { name := "tupleTexts", fn := fun _ => fun
  | [d1, d2, d3, d4] => { results := [.lit (.bool false)], args := [d1, d2, d3, d4] }
  | _ => none }
def TupleTextsWrongFalsely : Prop := tupleTextsRow.holds Tryd.pinned (OpenSpec.ofChange tupleTextsWrong)

/-- 'rampartlaw21.TupleAll': WHATEVER THE INPUT: true; the input reads as it did. -/
def tupleAllSpec : ChangeSpec := { name := "tupleAll", fn := fun _ => fun
  | [d1, d2] => { results := [.lit (.bool true)], args := [d1, d2] }
  | _ => none }
def tupleAllRow : OpenClaim := { program := "ytmdmabedfleacaadoor", sum := "783f2a5c05a88ae11a72f6589ff1f3d5de0d533897f731919410cd5cf1276dba", func := "rampart/rampartlaw21.TupleAll", spec := "tupleAll", inPlace := ["internal/abi.NoEscape", "internal/bytealg.MakeNoZero"], recurses := true, named := ["internal/strconv.uint64pow10", "math/bits.deBruijn32tab", "math/bits.deBruijn64tab"], apart := false, laid := [("math/bits.deBruijn32tab", laid_math_bits_deBruijn32tab), ("math/bits.deBruijn64tab", laid_math_bits_deBruijn64tab), ("internal/strconv.uint64pow10", laid_internal_strconv_uint64pow10)] }
def TupleAllSaid : Prop := tupleAllRow.holds Tryd.pinned (OpenSpec.ofChange tupleAllSpec)

/-- ITS FALSE NEIGHBOUR: 'it returns false'. Refute it at one input. -/
def tupleAllWrong : ChangeSpec := { name := "tupleAll", fn := fun _ => fun
  | [d1, d2] => { results := [.lit (.bool false)], args := [d1, d2] }
  | _ => none }
def TupleAllWrongFalsely : Prop := tupleAllRow.holds Tryd.pinned (OpenSpec.ofChange tupleAllWrong)

/-- 'rampartlaw21.TupleTurns': WHATEVER THE INPUT: true; the input reads as it did. -/
def tupleTurnsSpec : ChangeSpec := { name := "tupleTurns", fn := fun _ => fun
  | [d] => { results := [.lit (.bool true)], args := [d] }
  | _ => none }
def tupleTurnsRow : OpenClaim := { program := "ytmdmabedfleacaadoor", sum := "783f2a5c05a88ae11a72f6589ff1f3d5de0d533897f731919410cd5cf1276dba", func := "rampart/rampartlaw21.TupleTurns", spec := "tupleTurns", inPlace := ["internal/abi.NoEscape", "internal/bytealg.MakeNoZero"], named := ["internal/strconv.uint64pow10", "math/bits.deBruijn32tab", "math/bits.deBruijn64tab"], apart := false, laid := [("math/bits.deBruijn32tab", laid_math_bits_deBruijn32tab), ("math/bits.deBruijn64tab", laid_math_bits_deBruijn64tab), ("internal/strconv.uint64pow10", laid_internal_strconv_uint64pow10)] }
def TupleTurnsSaid : Prop := tupleTurnsRow.holds Tryd.pinned (OpenSpec.ofChange tupleTurnsSpec)

/-- ITS FALSE NEIGHBOUR: 'it returns false'. Refute it at one input. -/
def tupleTurnsWrong : ChangeSpec := { name := "tupleTurns", fn := fun _ => fun
  | [d] => { results := [.lit (.bool false)], args := [d] }
  | _ => none }
def TupleTurnsWrongFalsely : Prop := tupleTurnsRow.holds Tryd.pinned (OpenSpec.ofChange tupleTurnsWrong)

/-- 'rampartlaw21.TupleNone': WHATEVER THE INPUT: true; the input reads as it did. -/
def tupleNoneSpec : ChangeSpec := { name := "tupleNone", fn := fun _ => fun
  | [d1, d2] => { results := [.lit (.bool true)], args := [d1, d2] }
  | _ => none }
def tupleNoneRow : OpenClaim := { program := "ytmdmabedfleacaadoor", sum := "783f2a5c05a88ae11a72f6589ff1f3d5de0d533897f731919410cd5cf1276dba", func := "rampart/rampartlaw21.TupleNone", spec := "tupleNone", inPlace := ["internal/abi.NoEscape", "internal/bytealg.MakeNoZero"], named := ["internal/strconv.uint64pow10", "math/bits.deBruijn32tab", "math/bits.deBruijn64tab"], apart := false, laid := [("math/bits.deBruijn32tab", laid_math_bits_deBruijn32tab), ("math/bits.deBruijn64tab", laid_math_bits_deBruijn64tab), ("internal/strconv.uint64pow10", laid_internal_strconv_uint64pow10)] }
def TupleNoneSaid : Prop := tupleNoneRow.holds Tryd.pinned (OpenSpec.ofChange tupleNoneSpec)

/-- ITS FALSE NEIGHBOUR: 'it returns false'. Refute it at one input. -/
def tupleNoneWrong : ChangeSpec := { name := "tupleNone", fn := fun _ => fun
  | [d1, d2] => { results := [.lit (.bool false)], args := [d1, d2] }
  | _ => none }
def TupleNoneWrongFalsely : Prop := tupleNoneRow.holds Tryd.pinned (OpenSpec.ofChange tupleNoneWrong)

/-- 'rampartlaw09.CidrAll': WHATEVER THE INPUT: true; the input reads as it did. -/
def cidrAllSpec : ChangeSpec := { name := "cidrAll", fn := fun _ => fun
  | [d1, d2] => { results := [.lit (.bool true)], args := [d1, d2] }
  | _ => none }
def cidrAllRow : OpenClaim := { program := "ytmdmabedfleacaadoor", sum := "783f2a5c05a88ae11a72f6589ff1f3d5de0d533897f731919410cd5cf1276dba", func := "rampart/rampartlaw09.CidrAll", spec := "cidrAll", inPlace := ["internal/abi.NoEscape", "internal/bytealg.MakeNoZero"], recurses := true, named := ["internal/strconv.uint64pow10", "math/bits.deBruijn32tab", "math/bits.deBruijn64tab"], apart := false, laid := [("math/bits.deBruijn32tab", laid_math_bits_deBruijn32tab), ("math/bits.deBruijn64tab", laid_math_bits_deBruijn64tab), ("internal/strconv.uint64pow10", laid_internal_strconv_uint64pow10)] }
def CidrAllSaid : Prop := cidrAllRow.holds Tryd.pinned (OpenSpec.ofChange cidrAllSpec)

/-- ITS FALSE NEIGHBOUR: 'it returns false'. Refute it at one input. -/
def cidrAllWrong : ChangeSpec := { name := "cidrAll", fn := fun _ => fun
  | [d1, d2] => { results := [.lit (.bool false)], args := [d1, d2] }
  | _ => none }
def CidrAllWrongFalsely : Prop := cidrAllRow.holds Tryd.pinned (OpenSpec.ofChange cidrAllWrong)

/-- 'rampartlaw09.CidrClean': WHATEVER THE INPUT: true; the input reads as it did. -/
def cidrCleanSpec : ChangeSpec := { name := "cidrClean", fn := fun _ => fun
  | [d1, d2] => { results := [.lit (.bool true)], args := [d1, d2] }
  | _ => none }
def cidrCleanRow : OpenClaim := { program := "ytmdmabedfleacaadoor", sum := "783f2a5c05a88ae11a72f6589ff1f3d5de0d533897f731919410cd5cf1276dba", func := "rampart/rampartlaw09.CidrClean", spec := "cidrClean", inPlace := ["internal/abi.NoEscape", "internal/bytealg.MakeNoZero"], named := ["internal/strconv.uint64pow10", "math/bits.deBruijn32tab", "math/bits.deBruijn64tab"], apart := false, laid := [("math/bits.deBruijn32tab", laid_math_bits_deBruijn32tab), ("math/bits.deBruijn64tab", laid_math_bits_deBruijn64tab), ("internal/strconv.uint64pow10", laid_internal_strconv_uint64pow10)] }
def CidrCleanSaid : Prop := cidrCleanRow.holds Tryd.pinned (OpenSpec.ofChange cidrCleanSpec)

/-- ITS FALSE NEIGHBOUR: 'it returns false'. Refute it at one input. -/
def cidrCleanWrong : ChangeSpec := { name := "cidrClean", fn := fun _ => fun
  | [d1, d2] => { results := [.lit (.bool false)], args := [d1, d2] }
  | _ => none }
def CidrCleanWrongFalsely : Prop := cidrCleanRow.holds Tryd.pinned (OpenSpec.ofChange cidrCleanWrong)

/-- 'rampartlaw09.CidrNets': WHATEVER THE INPUT: true; the input reads as it did. -/
def cidrNetsSpec : ChangeSpec := { name := "cidrNets", fn := fun _ => fun
  | [d1, d2, d3, d4] => { results := [.lit (.bool true)], args := [d1, d2, d3, d4] }
  | _ => none }
def cidrNetsRow : OpenClaim := { program := "ytmdmabedfleacaadoor", sum := "783f2a5c05a88ae11a72f6589ff1f3d5de0d533897f731919410cd5cf1276dba", func := "rampart/rampartlaw09.CidrNets", spec := "cidrNets", inPlace := ["internal/abi.NoEscape", "internal/bytealg.MakeNoZero"], named := ["internal/strconv.uint64pow10", "math/bits.deBruijn32tab", "math/bits.deBruijn64tab"], apart := false, laid := [("math/bits.deBruijn32tab", laid_math_bits_deBruijn32tab), ("math/bits.deBruijn64tab", laid_math_bits_deBruijn64tab), ("internal/strconv.uint64pow10", laid_internal_strconv_uint64pow10)] }
def CidrNetsSaid : Prop := cidrNetsRow.holds Tryd.pinned (OpenSpec.ofChange cidrNetsSpec)

/-- ITS FALSE NEIGHBOUR: 'it returns false'. Refute it at one input. -/
def cidrNetsWrong : ChangeSpec := { name := "cidrNets", fn := fun _ => fun
  | [d1, d2, d3, d4] => { results := [.lit (.bool false)], args := [d1, d2, d3, d4] }
  | _ => none }
def CidrNetsWrongFalsely : Prop := cidrNetsRow.holds Tryd.pinned (OpenSpec.ofChange cidrNetsWrong)

/-- 'rampartlaw09.CidrMany': WHATEVER THE INPUT: true; the input reads as it did. -/
def cidrManySpec : ChangeSpec := { name := "cidrMany", fn := fun _ => fun
  | [d1, d2] => { results := [.lit (.bool true)], args := [d1, d2] }
  | _ => none }
def cidrManyRow : OpenClaim := { program := "ytmdmabedfleacaadoor", sum := "783f2a5c05a88ae11a72f6589ff1f3d5de0d533897f731919410cd5cf1276dba", func := "rampart/rampartlaw09.CidrMany", spec := "cidrMany", inPlace := ["internal/abi.NoEscape", "internal/bytealg.MakeNoZero"], recurses := true, named := ["internal/strconv.uint64pow10", "math/bits.deBruijn32tab", "math/bits.deBruijn64tab"], apart := false, laid := [("math/bits.deBruijn32tab", laid_math_bits_deBruijn32tab), ("math/bits.deBruijn64tab", laid_math_bits_deBruijn64tab), ("internal/strconv.uint64pow10", laid_internal_strconv_uint64pow10)] }
def CidrManySaid : Prop := cidrManyRow.holds Tryd.pinned (OpenSpec.ofChange cidrManySpec)

/-- ITS FALSE NEIGHBOUR: 'it returns false'. Refute it at one input. -/
def cidrManyWrong : ChangeSpec := { name := "cidrMany", fn := fun _ => fun
  | [d1, d2] => { results := [.lit (.bool false)], args := [d1, d2] }
  | _ => none }
def CidrManyWrongFalsely : Prop := cidrManyRow.holds Tryd.pinned (OpenSpec.ofChange cidrManyWrong)

/-- 'rampartlaw09.CidrDotted': WHATEVER THE INPUT: true; the input reads as it did. -/
def cidrDottedSpec : ChangeSpec := { name := "cidrDotted", fn := fun _ => fun
  | [d1, d2, d3, d4] => { results := [.lit (.bool true)], args := [d1, d2, d3, d4] }
  | _ => none }
def cidrDottedRow : OpenClaim := { program := "ytmdmabedfleacaadoor", sum := "783f2a5c05a88ae11a72f6589ff1f3d5de0d533897f731919410cd5cf1276dba", func := "rampart/rampartlaw09.CidrDotted", spec := "cidrDotted", inPlace := ["internal/abi.NoEscape", "internal/bytealg.MakeNoZero"], unfollowed := true, recurses := true, named := ["internal/strconv.uint64pow10", "math/bits.deBruijn32tab", "math/bits.deBruijn64tab"], apart := false, laid := [("math/bits.deBruijn32tab", laid_math_bits_deBruijn32tab), ("math/bits.deBruijn64tab", laid_math_bits_deBruijn64tab), ("internal/strconv.uint64pow10", laid_internal_strconv_uint64pow10)] }
def CidrDottedSaid : Prop := cidrDottedRow.holds Tryd.pinned (OpenSpec.ofChange cidrDottedSpec)

/-- ITS FALSE NEIGHBOUR: 'it returns false'. Refute it at one input. -/
def cidrDottedWrong : ChangeSpec := { name := "cidrDotted", fn := fun _ => fun
  | [d1, d2, d3, d4] => { results := [.lit (.bool false)], args := [d1, d2, d3, d4] }
  | _ => none }
def CidrDottedWrongFalsely : Prop := cidrDottedRow.holds Tryd.pinned (OpenSpec.ofChange cidrDottedWrong)

/- THE SECOND FORM. 'bulk': how many values and letters a reading holds, each counted each time it is reached (what is shared counts as often as it is met; a slice's spare places count too). A statement '..UptoSaid' is the law's where the arguments, and the package variables that the reading takes, are together of bulk at most 1048576: NARROWER than '..Said'. Prove '..Said' where nothing that the law and all that it calls make is longer than what came in: it says more and counts as full. Else prove '..UptoSaid'. A law counts once. -/
mutual
def uptoBulk {H : Type} : DataW H → Nat
  | .lit (.string bytes) => bytes.length + 1
  | .lit _ => 1
  | .nil => 1
  | .ptr d => uptoBulk d + 1
  | .slice elems spare => uptoBulkAll elems + uptoBulkAll spare + 1
  | .agg parts => uptoBulkAll parts + 1
  | .iface _ d => uptoBulk d + 1
  | .map entries => uptoBulkEntries entries + 1
  | .held _ => 1
def uptoBulkAll {H : Type} : List (DataW H) → Nat
  | [] => 0
  | d :: r => uptoBulk d + uptoBulkAll r
def uptoBulkEntries {H : Type} : List (Lit × DataW H) → Nat
  | [] => 0
  | x :: r => uptoBulkEntry x + uptoBulkEntries r
def uptoBulkEntry {H : Type} : Lit × DataW H → Nat
  | (.string bytes, d) => bytes.length + uptoBulk d + 1
  | (_, d) => uptoBulk d + 1
 end
def uptoSmall : (H : Type) → List (DataW H) → Bool := fun _ ds => decide (uptoBulkAll ds ≤ 1048576)
def OpenSpec.upto (s : _root_.Go.ChangeSpec) : _root_.Go.OpenSpec := { _root_.Go.OpenSpec.ofChange s with cond := some uptoSmall }

/-- 'rampartlaw21.TupleTexts', WHERE WHAT IT READS IS OF BULK AT MOST 1048576: true; the input reads as it did. -/
def tupleTextsUptoRow : OpenClaim := { program := "ytmdmabedfleacaadoor", sum := "783f2a5c05a88ae11a72f6589ff1f3d5de0d533897f731919410cd5cf1276dba", func := "rampart/rampartlaw21.TupleTexts", spec := "tupleTexts", inPlace := ["internal/abi.NoEscape", "internal/bytealg.MakeNoZero"], named := ["internal/strconv.uint64pow10", "math/bits.deBruijn32tab", "math/bits.deBruijn64tab"], apart := false, laid := [("math/bits.deBruijn32tab", laid_math_bits_deBruijn32tab), ("math/bits.deBruijn64tab", laid_math_bits_deBruijn64tab), ("internal/strconv.uint64pow10", laid_internal_strconv_uint64pow10)], narrowed := true }
def TupleTextsUptoSaid : Prop := tupleTextsUptoRow.holds Tryd.pinned (OpenSpec.upto tupleTextsSpec)

/-- 'rampartlaw21.TupleAll', WHERE WHAT IT READS IS OF BULK AT MOST 1048576: true; the input reads as it did. -/
def tupleAllUptoRow : OpenClaim := { program := "ytmdmabedfleacaadoor", sum := "783f2a5c05a88ae11a72f6589ff1f3d5de0d533897f731919410cd5cf1276dba", func := "rampart/rampartlaw21.TupleAll", spec := "tupleAll", inPlace := ["internal/abi.NoEscape", "internal/bytealg.MakeNoZero"], recurses := true, named := ["internal/strconv.uint64pow10", "math/bits.deBruijn32tab", "math/bits.deBruijn64tab"], apart := false, laid := [("math/bits.deBruijn32tab", laid_math_bits_deBruijn32tab), ("math/bits.deBruijn64tab", laid_math_bits_deBruijn64tab), ("internal/strconv.uint64pow10", laid_internal_strconv_uint64pow10)], narrowed := true }
def TupleAllUptoSaid : Prop := tupleAllUptoRow.holds Tryd.pinned (OpenSpec.upto tupleAllSpec)

/-- 'rampartlaw21.TupleTurns', WHERE WHAT IT READS IS OF BULK AT MOST 1048576: true; the input reads as it did. -/
def tupleTurnsUptoRow : OpenClaim := { program := "ytmdmabedfleacaadoor", sum := "783f2a5c05a88ae11a72f6589ff1f3d5de0d533897f731919410cd5cf1276dba", func := "rampart/rampartlaw21.TupleTurns", spec := "tupleTurns", inPlace := ["internal/abi.NoEscape", "internal/bytealg.MakeNoZero"], named := ["internal/strconv.uint64pow10", "math/bits.deBruijn32tab", "math/bits.deBruijn64tab"], apart := false, laid := [("math/bits.deBruijn32tab", laid_math_bits_deBruijn32tab), ("math/bits.deBruijn64tab", laid_math_bits_deBruijn64tab), ("internal/strconv.uint64pow10", laid_internal_strconv_uint64pow10)], narrowed := true }
def TupleTurnsUptoSaid : Prop := tupleTurnsUptoRow.holds Tryd.pinned (OpenSpec.upto tupleTurnsSpec)

/-- 'rampartlaw21.TupleNone', WHERE WHAT IT READS IS OF BULK AT MOST 1048576: true; the input reads as it did. -/
def tupleNoneUptoRow : OpenClaim := { program := "ytmdmabedfleacaadoor", sum := "783f2a5c05a88ae11a72f6589ff1f3d5de0d533897f731919410cd5cf1276dba", func := "rampart/rampartlaw21.TupleNone", spec := "tupleNone", inPlace := ["internal/abi.NoEscape", "internal/bytealg.MakeNoZero"], named := ["internal/strconv.uint64pow10", "math/bits.deBruijn32tab", "math/bits.deBruijn64tab"], apart := false, laid := [("math/bits.deBruijn32tab", laid_math_bits_deBruijn32tab), ("math/bits.deBruijn64tab", laid_math_bits_deBruijn64tab), ("internal/strconv.uint64pow10", laid_internal_strconv_uint64pow10)], narrowed := true }
def TupleNoneUptoSaid : Prop := tupleNoneUptoRow.holds Tryd.pinned (OpenSpec.upto tupleNoneSpec)

/-- 'rampartlaw09.CidrAll', WHERE WHAT IT READS IS OF BULK AT MOST 1048576: true; the input reads as it did. -/
def cidrAllUptoRow : OpenClaim := { program := "ytmdmabedfleacaadoor", sum := "783f2a5c05a88ae11a72f6589ff1f3d5de0d533897f731919410cd5cf1276dba", func := "rampart/rampartlaw09.CidrAll", spec := "cidrAll", inPlace := ["internal/abi.NoEscape", "internal/bytealg.MakeNoZero"], recurses := true, named := ["internal/strconv.uint64pow10", "math/bits.deBruijn32tab", "math/bits.deBruijn64tab"], apart := false, laid := [("math/bits.deBruijn32tab", laid_math_bits_deBruijn32tab), ("math/bits.deBruijn64tab", laid_math_bits_deBruijn64tab), ("internal/strconv.uint64pow10", laid_internal_strconv_uint64pow10)], narrowed := true }
def CidrAllUptoSaid : Prop := cidrAllUptoRow.holds Tryd.pinned (OpenSpec.upto cidrAllSpec)

/-- 'rampartlaw09.CidrClean', WHERE WHAT IT READS IS OF BULK AT MOST 1048576: true; the input reads as it did. -/
def cidrCleanUptoRow : OpenClaim := { program := "ytmdmabedfleacaadoor", sum := "783f2a5c05a88ae11a72f6589ff1f3d5de0d533897f731919410cd5cf1276dba", func := "rampart/rampartlaw09.CidrClean", spec := "cidrClean", inPlace := ["internal/abi.NoEscape", "internal/bytealg.MakeNoZero"], named := ["internal/strconv.uint64pow10", "math/bits.deBruijn32tab", "math/bits.deBruijn64tab"], apart := false, laid := [("math/bits.deBruijn32tab", laid_math_bits_deBruijn32tab), ("math/bits.deBruijn64tab", laid_math_bits_deBruijn64tab), ("internal/strconv.uint64pow10", laid_internal_strconv_uint64pow10)], narrowed := true }
def CidrCleanUptoSaid : Prop := cidrCleanUptoRow.holds Tryd.pinned (OpenSpec.upto cidrCleanSpec)

/-- 'rampartlaw09.CidrNets', WHERE WHAT IT READS IS OF BULK AT MOST 1048576: true; the input reads as it did. -/
def cidrNetsUptoRow : OpenClaim := { program := "ytmdmabedfleacaadoor", sum := "783f2a5c05a88ae11a72f6589ff1f3d5de0d533897f731919410cd5cf1276dba", func := "rampart/rampartlaw09.CidrNets", spec := "cidrNets", inPlace := ["internal/abi.NoEscape", "internal/bytealg.MakeNoZero"], named := ["internal/strconv.uint64pow10", "math/bits.deBruijn32tab", "math/bits.deBruijn64tab"], apart := false, laid := [("math/bits.deBruijn32tab", laid_math_bits_deBruijn32tab), ("math/bits.deBruijn64tab", laid_math_bits_deBruijn64tab), ("internal/strconv.uint64pow10", laid_internal_strconv_uint64pow10)], narrowed := true }
def CidrNetsUptoSaid : Prop := cidrNetsUptoRow.holds Tryd.pinned (OpenSpec.upto cidrNetsSpec)

/-- 'rampartlaw09.CidrMany', WHERE WHAT IT READS IS OF BULK AT MOST 1048576: true; the input reads as it did. -/
def cidrManyUptoRow : OpenClaim := { program := "ytmdmabedfleacaadoor", sum := "783f2a5c05a88ae11a72f6589ff1f3d5de0d533897f731919410cd5cf1276dba", func := "rampart/rampartlaw09.CidrMany", spec := "cidrMany", inPlace := ["internal/abi.NoEscape", "internal/bytealg.MakeNoZero"], recurses := true, named := ["internal/strconv.uint64pow10", "math/bits.deBruijn32tab", "math/bits.deBruijn64tab"], apart := false, laid := [("math/bits.deBruijn32tab", laid_math_bits_deBruijn32tab), ("math/bits.deBruijn64tab", laid_math_bits_deBruijn64tab), ("internal/strconv.uint64pow10", laid_internal_strconv_uint64pow10)], narrowed := true }
def CidrManyUptoSaid : Prop := cidrManyUptoRow.holds Tryd.pinned (OpenSpec.upto cidrManySpec)

/-- 'rampartlaw09.CidrDotted', WHERE WHAT IT READS IS OF BULK AT MOST 1048576: true; the input reads as it did. -/
def cidrDottedUptoRow : OpenClaim := { program := "ytmdmabedfleacaadoor", sum := "783f2a5c05a88ae11a72f6589ff1f3d5de0d533897f731919410cd5cf1276dba", func := "rampart/rampartlaw09.CidrDotted", spec := "cidrDotted", inPlace := ["internal/abi.NoEscape", "internal/bytealg.MakeNoZero"], unfollowed := true, recurses := true, named := ["internal/strconv.uint64pow10", "math/bits.deBruijn32tab", "math/bits.deBruijn64tab"], apart := false, laid := [("math/bits.deBruijn32tab", laid_math_bits_deBruijn32tab), ("math/bits.deBruijn64tab", laid_math_bits_deBruijn64tab), ("internal/strconv.uint64pow10", laid_internal_strconv_uint64pow10)], narrowed := true }
def CidrDottedUptoSaid : Prop := cidrDottedUptoRow.holds Tryd.pinned (OpenSpec.upto cidrDottedSpec)

end Rows
end Go.Proofs.YtmdmabedfleacaaDoor
