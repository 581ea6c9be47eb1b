/- A part of the proof: contracts of functions, over the abstract machine. -/
import Derived.Test.YtjaammiblfndaaaGreatDoorFzK
import Derived.Test.YtjaammiblfndaaaGreatDoorProg
import Derived.KernelRfl
set_option linter.unusedVariables false
set_option linter.unusedSimpArgs false
set_option linter.all false
/- Functions, worked out ahead of their runs: printed by a program of ours, held by the kernel. -/
namespace Go.Proofs.YtjaammiblfndaaaGreatDoor
open Ram Go
noncomputable section
set_option maxRecDepth 100000
set_option maxHeartbeats 4000000
abbrev S := SC Tryz.prog
abbrev T (n : Nat) := RunF Tryz.prog n
abbrev U := Alt Tryz.prog
/- 13: rampart/rampartlaw00.Place -/
def s13 : S := .seq (.reg [mK 4 0]) (.seq (.reg [mM 6 0, mM 7 1, mB .rem 8 6 7, mM 5 8]) (.join [5] [] (.seq (.reg [mM 9 5, mB .lss 10 9 (.c 0)]) (.cond 10 (.reg [mM 11 5, mM 12 1, mB .add 13 11 12, mM 5 13]) .skip)) (.seq (.reg [mM 14 5, mM 4 14]) .ret)))
def r13 : List ARes := [.t 4]
theorem k13 : compFn Tryz.prog 13 = some ⟨15, (s13).er, r13⟩ := by kernel_rfl
abbrev q13 (O : Ops Tryz.prog) := curF 2 (sfn O (s13) r13)
def g13 : { g // g = q13 } := by
  have h : q13 = q13 := rfl
  conv at h => rhs; reduce
  exact ⟨_, h.symm⟩
def C13 : T 13 := mkRun 2 (k13) (by decide) (g13.1 (theOps Tryz.prog)) (by rw [g13.2])
/- 86: rampart/engine.in -/
def s86 : S := .seq (.reg [mK 6 (.b false)]) (.seq (.reg [mM 7 0, mM 8 1, mB .geq 9 7 8, mM 10 9, (mM 11 0).g 10 true, (mM 12 2).g 10 true, (mB .leq 13 11 12).g 10 true, mU 14 (.pick 10 13 (.c (.b false))), mM 6 14]) .ret)
def r86 : List ARes := [.t 6]
theorem k86 : compFn Tryz.prog 86 = some ⟨15, (s86).er, r86⟩ := by kernel_rfl
abbrev q86 (O : Ops Tryz.prog) := curF 3 (sfn O (s86) r86)
def g86 : { g // g = q86 } := by
  have h : q86 = q86 := rfl
  conv at h => rhs; reduce
  exact ⟨_, h.symm⟩
def C86 : T 86 := mkRun 3 (k86) (by decide) (g86.1 (theOps Tryz.prog)) (by rw [g86.2])
/- 40: rampart/engine.Check -/
def s40 (c86 : T 86) : S := .seq (.reg [mN 1 (.box 0), mK 2 (.b false)]) (.join [1, 3] [] (.reg [mF 0 4 1, mL 5 4, mQ 6 86 [5, .c 1, .c 64] c86, mM 7 6, (mF 1 8 1).g 7 true, (mL 9 8).g 7 true, (mQ 10 86 [9, .c 1, .c 32] c86).g 7 true, mU 11 (.pick 7 10 (.c (.b false))), mM 12 11, (mF 2 13 1).g 12 true, (mL 14 13).g 12 true, (mQ 15 86 [14, .c 0, .c 1024] c86).g 12 true, mU 16 (.pick 12 15 (.c (.b false))), mM 17 16, (mF 3 18 1).g 17 true, (mL 19 18).g 17 true, (mQ 20 86 [19, .c 0, .c 1024] c86).g 17 true, mU 21 (.pick 17 20 (.c (.b false))), mM 22 21, (mF 4 23 1).g 22 true, (mL 24 23).g 22 true, (mQ 25 86 [24, .c 1, .c 32] c86).g 22 true, mU 26 (.pick 22 25 (.c (.b false))), mM 27 26, (mF 5 28 1).g 27 true, (mL 29 28).g 27 true, (mQ 30 86 [29, .c 1, .c 4096] c86).g 27 true, mU 31 (.pick 27 30 (.c (.b false))), mM 3 31]) (.seq (.reg [mM 32 3, mM 33 32, (mF 6 34 1).g 33 true, (mL 35 34).g 33 true, (mQ 36 86 [35, .c 1, .c 100000] c86).g 33 true, mU 37 (.pick 33 36 (.c (.b false))), mM 38 37, (mF 7 39 1).g 38 true, (mL 40 39).g 38 true, (mQ 41 86 [40, .c 1, .c 100000] c86).g 38 true, mU 42 (.pick 38 41 (.c (.b false))), mM 43 42, (mF 8 44 1).g 43 true, (mL 45 44).g 43 true, (mQ 46 86 [45, .c 1, .c 100000] c86).g 43 true, mU 47 (.pick 43 46 (.c (.b false))), mM 2 47]) .ret))
def r40 : List ARes := [.t 2]
theorem k40 (c86 : T 86) : compFn Tryz.prog 40 = some ⟨48, (s40 c86).er, r40⟩ := by kernel_rfl
abbrev q40 (O : Ops Tryz.prog) (c86 : T 86) := curF 1 (sfn O (s40 c86) r40)
def g40 : { g // g = q40 } := by
  have h : q40 = q40 := rfl
  conv at h => rhs; reduce
  exact ⟨_, h.symm⟩
def C40 : T 40 := mkRun 1 (k40 C86) (by decide) (g40.1 (theOps Tryz.prog) C86) (by rw [g40.2])
/- 87: rampart/defrag.cut -/
def s87 : S := .seq (.reg [mK 4 0]) (.seq (.reg [mM 5 0, mM 6 1, mU 7 (.mxmn false [5, 6]), mU 8 (.mxmn true [.c 1, 7]), mM 4 8]) .ret)
def r87 : List ARes := [.t 4]
theorem k87 : compFn Tryz.prog 87 = some ⟨9, (s87).er, r87⟩ := by kernel_rfl
abbrev q87 (O : Ops Tryz.prog) := curF 2 (sfn O (s87) r87)
def g87 : { g // g = q87 } := by
  have h : q87 = q87 := rfl
  conv at h => rhs; reduce
  exact ⟨_, h.symm⟩
def C87 : T 87 := mkRun 2 (k87) (by decide) (g87.1 (theOps Tryz.prog)) (by rw [g87.2])
/- 41: rampart/defrag.New -/
def s41 (c87 : T 87) : S := .seq (.reg [mK 4 (.p none)]) (.seq (.reg [mM 5 0, mQ 6 87 [5, .c 32] c87, mM 7 1, mQ 8 87 [7, .c 100000] c87, mN 9 .mkmap, mU 10 (.build [0, 0, .m none] [(0, (1, 6)), (1, (1, 8)), (2, (1, 9))]), mN 11 (.box 10), mM 4 11]) .ret)
def r41 : List ARes := [.t 4]
theorem k41 (c87 : T 87) : compFn Tryz.prog 41 = some ⟨12, (s41 c87).er, r41⟩ := by kernel_rfl
abbrev q41 (O : Ops Tryz.prog) (c87 : T 87) := curF 2 (sfn O (s41 c87) r41)
def g41 : { g // g = q41 } := by
  have h : q41 = q41 := rfl
  conv at h => rhs; reduce
  exact ⟨_, h.symm⟩
def C41 : T 41 := mkRun 2 (k41 C87) (by decide) (g41.1 (theOps Tryz.prog) C87) (by rw [g41.2])
/- 88: rampart/table.cut -/
def s88 : S := .seq (.reg [mK 4 0]) (.seq (.reg [mM 5 0, mM 6 1, mU 7 (.mxmn false [5, 6]), mU 8 (.mxmn true [.c 1, 7]), mM 4 8]) .ret)
def r88 : List ARes := [.t 4]
theorem k88 : compFn Tryz.prog 88 = some ⟨9, (s88).er, r88⟩ := by kernel_rfl
abbrev q88 (O : Ops Tryz.prog) := curF 2 (sfn O (s88) r88)
def g88 : { g // g = q88 } := by
  have h : q88 = q88 := rfl
  conv at h => rhs; reduce
  exact ⟨_, h.symm⟩
def C88 : T 88 := mkRun 2 (k88) (by decide) (g88.1 (theOps Tryz.prog)) (by rw [g88.2])
/- 42: rampart/table.New -/
def s42 (c88 : T 88) : S := .seq (.reg [mK 4 (.p none)]) (.join [0, 1, 5] [] (.reg [mU 6 (.build [0, .i .u32 0, .i .u32 0, 0, 0, 0, 0, .p none, .p none] []), mN 7 (.box 6), mM 5 7]) (.seq (.reg [mM 8 5, mM 9 5, mM 10 5, mM 11 5, mU 12 (.nilCheck 8), mF 7 13 12, mZ (.st 1 13 10), mU 14 (.nilCheck 9), mF 8 15 14, mZ (.st 1 15 11)]) (.seq (.reg [mM 16 0, mQ 17 88 [16, .c 64] c88, mM 18 1, mQ 19 88 [18, .c 100000] c88, mM 20 5, mN 21 .mkmap, mU 22 (.build [0, 0, 0, 0, .p none, .m none] [(0, (1, 17)), (1, (1, 19)), (4, (1, 20)), (5, (1, 21))]), mN 23 (.box 22), mM 4 23]) .ret)))
def r42 : List ARes := [.t 4]
theorem k42 (c88 : T 88) : compFn Tryz.prog 42 = some ⟨24, (s42 c88).er, r42⟩ := by kernel_rfl
abbrev q42 (O : Ops Tryz.prog) (c88 : T 88) := curF 2 (sfn O (s42 c88) r42)
def g42 : { g // g = q42 } := by
  have h : q42 = q42 := rfl
  conv at h => rhs; reduce
  exact ⟨_, h.symm⟩
def C42 : T 42 := mkRun 2 (k42 C88) (by decide) (g42.1 (theOps Tryz.prog) C88) (by rw [g42.2])
/- 43: rampart/blocks.New -/
def s43 : S := .seq (.reg [mK 2 (.p none)]) (.join [3] [] (.reg [mM 5 0, mU 6 (.mxmn false [5, .c 100000]), mU 7 (.mxmn true [.c 1, 6]), mN 3 (.newz [0]), mZ (.st 1 3 7)]) (.seq (.reg [mU 8 (.build [0, .nf, .sl 0 none 0 0] []), mN 9 (.box 8), mN 4 (.newz [.p none]), mZ (.st 1 4 9)]) (.seq (.reg [mL 10 4, mU 11 (.mkFunc 89 [] [4, 3]), mU 12 (.nilCheck 10), mF 1 13 12, mZ (.st 1 13 11)]) (.seq (.reg [mL 14 4, mM 2 14]) .ret))))
def r43 : List ARes := [.t 2]
theorem k43 : compFn Tryz.prog 43 = some ⟨15, (s43).er, r43⟩ := by kernel_rfl
abbrev q43 (O : Ops Tryz.prog) := curF 1 (sfn O (s43) r43)
def g43 : { g // g = q43 } := by
  have h : q43 = q43 := rfl
  conv at h => rhs; reduce
  exact ⟨_, h.symm⟩
def C43 : T 43 := mkRun 1 (k43) (by decide) (g43.1 (theOps Tryz.prog)) (by rw [g43.2])
/- 17: rampart/engine.New -/
def s17 (c40 : T 40) (c41 : T 41) (c42 : T 42) (c43 : T 43) : S := .seq (.reg [mN 1 (.box 0), mK 2 (.p none), mK 3 0]) (.join [1] [] (.seq (.reg [mR 4 (.ldN 9 1), mQ 5 40 [4] c40, mU 6 (.un .not 5)]) (.cond 6 (.seq (.reg [mK 2 (.p none), mK 3 1]) .ret) .skip)) (.seq (.draw 19 [⟨[], [⟨0, ⟨some 7, .read (.ldN 9 1), none⟩, 3⟩, ⟨1, ⟨some 8, .pure (.fieldAddr 1 1), none⟩, 0⟩, ⟨2, ⟨some 9, .read (.ld1 8), none⟩, 0⟩, ⟨3, ⟨some 10, .pure (.fieldAddr 7 1), none⟩, 0⟩, ⟨4, ⟨some 11, .read (.ld1 10), none⟩, 0⟩, ⟨6, ⟨some 13, .pure (.fieldAddr 0 1), none⟩, 1⟩, ⟨7, ⟨some 14, .read (.ld1 13), none⟩, 1⟩, ⟨8, ⟨some 15, .pure (.fieldAddr 6 1), none⟩, 1⟩, ⟨9, ⟨some 16, .read (.ld1 15), none⟩, 1⟩, ⟨11, ⟨some 18, .pure (.fieldAddr 8 1), none⟩, 2⟩, ⟨12, ⟨some 19, .read (.ld1 18), none⟩, 2⟩, ⟨14, ⟨some 21, .alloc .mkmap, none⟩, 3⟩], some (mQ 12 41 [9, 11] c41)⟩, ⟨[⟨some 7, .read (.ldN 9 1), none⟩, ⟨some 14, .read (.ld1 13), none⟩, ⟨some 16, .read (.ld1 15), none⟩, ⟨some 19, .read (.ld1 18), none⟩], [], some (mQ 17 42 [14, 16] c42)⟩, ⟨[⟨some 7, .read (.ldN 9 1), none⟩, ⟨some 19, .read (.ld1 18), none⟩], [], some (mQ 20 43 [19] c43)⟩, ⟨[⟨some 7, .read (.ldN 9 1), none⟩], [⟨15, ⟨some 22, .pure (.build [0, 0, 0, 0, 0, 0, 0, 0, 0, .sl 0 none 0 0, 0, .p none, .p none, .p none, .m none, 0, 0, 0, 0, 0, 0, 0, 0, 0, 0, 0, 0, 0, 0] [(0, (9, 7)), (10, (1, .c 1)), (11, (1, 12)), (12, (1, 17)), (13, (1, 20)), (14, (1, 21))]), none⟩, 3⟩, ⟨16, ⟨some 23, .alloc (.box 22), none⟩, 3⟩, ⟨17, ⟨some 2, .pure (.mv 23), none⟩, 3⟩, ⟨18, ⟨some 3, .pure (.mv (.c 0)), none⟩, 3⟩], none⟩]) .ret))
def r17 : List ARes := [.t 2, .t 3]
theorem k17 (c40 : T 40) (c41 : T 41) (c42 : T 42) (c43 : T 43) : compFn Tryz.prog 17 = some ⟨24, (s17 c40 c41 c42 c43).er, r17⟩ := by kernel_rfl
abbrev q17 (O : Ops Tryz.prog) (c40 : T 40) (c41 : T 41) (c42 : T 42) (c43 : T 43) := curF 1 (sfn O (s17 c40 c41 c42 c43) r17)
def g17 : { g // g = q17 } := by
  have h : q17 = q17 := rfl
  conv at h => rhs; reduce
  exact ⟨_, h.symm⟩
def C17 : T 17 := mkRun 1 (k17 C40 C41 C42 C43) (by decide) (g17.1 (theOps Tryz.prog) C40 C41 C42 C43) (by rw [g17.2])
/- 18: rampart/rampartlaw00.Wide -/
def s18 : S := .seq (.reg [mN 0 (.newz [0, 0, 0, 0, 0, 0, 0, 0, 0])]) (.seq (.reg [mU 1 (.build [0, 0, 0, 0, 0, 0, 0, 0, 0] [(0, (1, .c 60)), (1, (1, .c 30)), (2, (1, .c 1000)), (3, (1, .c 1000)), (4, (1, .c 32)), (5, (1, .c 4000)), (6, (1, .c 100000)), (7, (1, .c 100000)), (8, (1, .c 100000))]), mZ (.st 9 0 1)]) .ret)
def r18 : List ARes := [.c true 9 0]
theorem k18 : compFn Tryz.prog 18 = some ⟨2, (s18).er, r18⟩ := by kernel_rfl
abbrev q18 (O : Ops Tryz.prog) := curF 0 (sfn O (s18) r18)
def g18 : { g // g = q18 } := by
  have h : q18 = q18 := rfl
  conv at h => rhs; reduce
  exact ⟨_, h.symm⟩
def C18 : T 18 := mkRun 0 (k18) (by decide) (g18.1 (theOps Tryz.prog)) (by rw [g18.2])
/- 226: rampart/lex.first -/
def s226 : S := .seq (.reg [mK 2 (.i .i32 0)]) (.seq (.seq (.reg [mM 5 0, mN 6 (.rangeS 5)]) (.block 0 (.loop [] [6] (.seq (.reg [mY 7 (.nextS 6), mU 8 (.extract 0 7)]) (.seq (.cond 8 .skip (.exit 0)) (.block 1 (.seq (.reg [mU 9 (.extract 2 7), mM 4 9]) (.seq (.reg [mM 10 4, mM 2 10]) .ret)))))))) (.seq (.reg [mK 2 (.i .i32 0)]) .ret))
def r226 : List ARes := [.t 2]
theorem k226 : compFn Tryz.prog 226 = some ⟨11, (s226).er, r226⟩ := by kernel_rfl
abbrev q226 (O : Ops Tryz.prog) := curF 1 (sfn O (s226) r226)
def g226 : { g // g = q226 } := by
  have h : q226 = q226 := rfl
  conv at h => rhs; reduce
  exact ⟨_, h.symm⟩
def C226 : T 226 := mkRun 1 (k226) (by decide) (g226.1 (theOps Tryz.prog)) (by rw [g226.2])
/- 227: rampart/lex.blank -/
def s227 : S := .seq (.reg [mK 2 (.b false)]) (.seq (.reg [mM 3 0, mB .eql 4 3 (.c (.i .i32 32)), mM 5 4, (mM 6 0).g 5 false, (mB .eql 7 6 (.c (.i .i32 9))).g 5 false, mU 8 (.pick 5 (.c (.b true)) 7), mM 9 8, (mM 10 0).g 9 false, (mB .eql 11 10 (.c (.i .i32 13))).g 9 false, mU 12 (.pick 9 (.c (.b true)) 11), mM 2 12]) .ret)
def r227 : List ARes := [.t 2]
theorem k227 : compFn Tryz.prog 227 = some ⟨13, (s227).er, r227⟩ := by kernel_rfl
abbrev q227 (O : Ops Tryz.prog) := curF 1 (sfn O (s227) r227)
def g227 : { g // g = q227 } := by
  have h : q227 = q227 := rfl
  conv at h => rhs; reduce
  exact ⟨_, h.symm⟩
def C227 : T 227 := mkRun 1 (k227) (by decide) (g227.1 (theOps Tryz.prog)) (by rw [g227.2])
/- 228: (*rampart/lex.text).take -/
def s228 : S := .seq (.reg [mK 4 (.s [])]) (.seq (.reg [mM 6 0, mU 7 (.nilCheck 6), mF 0 8 7, mL 9 8, mM 10 1, mU 11 (.slStr 9 none (some 10)), mM 5 11]) (.seq (.reg [mM 12 0, mM 13 0, mU 14 (.nilCheck 13), mF 0 15 14, mL 16 15, mM 17 1, mU 18 (.slStr 16 (some 17) none), mU 19 (.nilCheck 12), mF 0 20 19, mZ (.st 1 20 18)]) (.seq (.reg [mM 21 5, mM 4 21]) .ret)))
def r228 : List ARes := [.t 4]
theorem k228 : compFn Tryz.prog 228 = some ⟨22, (s228).er, r228⟩ := by kernel_rfl
abbrev q228 (O : Ops Tryz.prog) := curF 2 (sfn O (s228) r228)
def g228 : { g // g = q228 } := by
  have h : q228 = q228 := rfl
  conv at h => rhs; reduce
  exact ⟨_, h.symm⟩
def C228 : T 228 := mkRun 2 (k228) (by decide) (g228.1 (theOps Tryz.prog)) (by rw [g228.2])
/- 230: (*rampart/lex.text).next$1 -/
def s230 : S := .seq (.reg [mK 2 (.b false)]) (.seq (.reg [mM 3 0, mB .neq 4 3 (.c (.i .i32 10)), mM 2 4]) .ret)
def r230 : List ARes := [.t 2]
theorem k230 : compFn Tryz.prog 230 = some ⟨5, (s230).er, r230⟩ := by kernel_rfl
abbrev q230 (O : Ops Tryz.prog) := curF 1 (sfn O (s230) r230)
def g230 : { g // g = q230 } := by
  have h : q230 = q230 := rfl
  conv at h => rhs; reduce
  exact ⟨_, h.symm⟩
def C230 : T 230 := mkRun 1 (k230) (by decide) (g230.1 (theOps Tryz.prog)) (by rw [g230.2])
def A230 : U := ⟨230, C230⟩
/- 233: rampart/lex.digit -/
def s233 : S := .seq (.reg [mK 2 (.b false)]) (.seq (.reg [mM 3 0, mB .geq 4 3 (.c (.i .i32 48)), mM 5 4, (mM 6 0).g 5 true, (mB .leq 7 6 (.c (.i .i32 57))).g 5 true, mU 8 (.pick 5 7 (.c (.b false))), mM 2 8]) .ret)
def r233 : List ARes := [.t 2]
theorem k233 : compFn Tryz.prog 233 = some ⟨9, (s233).er, r233⟩ := by kernel_rfl
abbrev q233 (O : Ops Tryz.prog) := curF 1 (sfn O (s233) r233)
def g233 : { g // g = q233 } := by
  have h : q233 = q233 := rfl
  conv at h => rhs; reduce
  exact ⟨_, h.symm⟩
def C233 : T 233 := mkRun 1 (k233) (by decide) (g233.1 (theOps Tryz.prog)) (by rw [g233.2])
def A233 : U := ⟨233, C233⟩
/- 231: rampart/lex.letter -/
def s231 : S := .seq (.reg [mK 2 (.b false)]) (.seq (.reg [mM 3 0, mB .geq 4 3 (.c (.i .i32 97)), mM 5 4, (mM 6 0).g 5 true, (mB .leq 7 6 (.c (.i .i32 122))).g 5 true, mU 8 (.pick 5 7 (.c (.b false))), mM 9 8, (mM 10 0).g 9 false, (mB .geq 11 10 (.c (.i .i32 65))).g 9 false, (mM 12 11).g 9 false, (mM 13 0).g 12 true, (mB .leq 14 13 (.c (.i .i32 90))).g 12 true, (mU 15 (.pick 12 14 (.c (.b false)))).g 9 false, mU 16 (.pick 9 (.c (.b true)) 15), mM 2 16]) .ret)
def r231 : List ARes := [.t 2]
theorem k231 : compFn Tryz.prog 231 = some ⟨17, (s231).er, r231⟩ := by kernel_rfl
abbrev q231 (O : Ops Tryz.prog) := curF 1 (sfn O (s231) r231)
def g231 : { g // g = q231 } := by
  have h : q231 = q231 := rfl
  conv at h => rhs; reduce
  exact ⟨_, h.symm⟩
def C231 : T 231 := mkRun 1 (k231) (by decide) (g231.1 (theOps Tryz.prog)) (by rw [g231.2])
/- 294: rampart/lex.either -/
def s294 (c231 : T 231) (c233 : T 233) : S := .seq (.reg [mK 2 (.b false)]) (.seq (.reg [mM 3 0, mQ 4 231 [3] c231, mM 5 4, (mM 6 0).g 5 false, (mQ 7 233 [6] c233).g 5 false, mU 8 (.pick 5 (.c (.b true)) 7), mM 2 8]) .ret)
def r294 : List ARes := [.t 2]
theorem k294 (c231 : T 231) (c233 : T 233) : compFn Tryz.prog 294 = some ⟨9, (s294 c231 c233).er, r294⟩ := by kernel_rfl
abbrev q294 (O : Ops Tryz.prog) (c231 : T 231) (c233 : T 233) := curF 1 (sfn O (s294 c231 c233) r294)
def g294 : { g // g = q294 } := by
  have h : q294 = q294 := rfl
  conv at h => rhs; reduce
  exact ⟨_, h.symm⟩
def C294 : T 294 := mkRun 1 (k294 C231 C233) (by decide) (g294.1 (theOps Tryz.prog) C231 C233) (by rw [g294.2])
def A294 : U := ⟨294, C294⟩
/- 229: rampart/lex.span -/
def s229 (a230 : U) (a233 : U) (a294 : U) : S := .seq (.reg [mK 4 0]) (.seq (.seq (.reg [mM 7 0, mN 8 (.rangeS 7)]) (.block 0 (.loop [] [0, 1, 8] (.seq (.reg [mY 9 (.nextS 8), mU 10 (.extract 0 9)]) (.seq (.cond 10 .skip (.exit 0)) (.block 1 (.seq (.reg [mU 11 (.extract 1 9), mU 12 (.extract 2 9), mM 5 11, mM 6 12]) (.seq (.reg [mM 13 1, mM 14 6, mV 15 13 [14] [a230, a233, a294] [], mU 16 (.un .not 15)]) (.cond 16 (.seq (.reg [mM 17 5, mM 4 17]) .ret) .skip))))))))) (.seq (.reg [mM 18 0, mU 19 (.lenS 18), mM 4 19]) .ret))
def r229 : List ARes := [.t 4]
theorem k229 (a230 : U) (a233 : U) (a294 : U) : compFn Tryz.prog 229 = some ⟨20, (s229 a230 a233 a294).er, r229⟩ := by kernel_rfl
abbrev q229 (O : Ops Tryz.prog) (a230 : U) (a233 : U) (a294 : U) := curF 2 (sfn O (s229 a230 a233 a294) r229)
def g229 : { g // g = q229 } := by
  have h : q229 = q229 := rfl
  conv at h => rhs; reduce
  exact ⟨_, h.symm⟩
def C229 : T 229 := mkRun 2 (k229 A230 A233 A294) (by decide) (g229.1 (theOps Tryz.prog) A230 A233 A294) (by rw [g229.2])
/- 295: (*rampart/lex.text).put -/
def s295 : S := .draw 18 [⟨[], [⟨0, ⟨some 8, .pure (.mv 0), none⟩, 1⟩, ⟨1, ⟨some 9, .pure (.mv 0), none⟩, 0⟩, ⟨2, ⟨some 10, .pure (.nilCheck 9), none⟩, 0⟩, ⟨3, ⟨some 11, .pure (.fieldAddr 2 10), none⟩, 0⟩, ⟨4, ⟨some 12, .read (.ld1 11), none⟩, 0⟩, ⟨5, ⟨some 13, .pure (.mv 1), none⟩, 0⟩, ⟨6, ⟨some 14, .pure (.mv 2), none⟩, 0⟩, ⟨7, ⟨some 15, .pure (.mv 3), none⟩, 0⟩, ⟨8, ⟨some 16, .pure (.mv 0), none⟩, 0⟩, ⟨9, ⟨some 17, .pure (.nilCheck 16), none⟩, 0⟩, ⟨10, ⟨some 18, .pure (.fieldAddr 1 17), none⟩, 0⟩, ⟨11, ⟨some 19, .read (.ld1 18), none⟩, 0⟩, ⟨12, ⟨some 20, .pure (.build [0, .s [], 0, 0] [(0, (1, 13)), (1, (1, 14)), (2, (1, 15)), (3, (1, 19))]), none⟩, 0⟩, ⟨13, ⟨some 21, .alloc (.bslice 4 1 [0, .s [], 0, 0] [(0, (4, 20))]), none⟩, 0⟩], some (mY 22 (.append 4 40 12 21))⟩, ⟨[], [⟨15, ⟨some 23, .pure (.nilCheck 8), none⟩, 1⟩, ⟨16, ⟨some 24, .pure (.fieldAddr 2 23), none⟩, 1⟩], some (mZ (.st 1 24 22))⟩, ⟨[], [], none⟩]
def r295 : List ARes := []
theorem k295 : compFn Tryz.prog 295 = some ⟨25, (s295).er, r295⟩ := by kernel_rfl
abbrev q295 (O : Ops Tryz.prog) := curF 4 (sfn O (s295) r295)
def g295 : { g // g = q295 } := by
  have h : q295 = q295 := rfl
  conv at h => rhs; reduce
  exact ⟨_, h.symm⟩
def C295 : T 295 := mkRun 4 (k295) (by decide) (g295.1 (theOps Tryz.prog)) (by rw [g295.2])
/- 232: (*rampart/lex.text).word -/
def s232 (c226 : T 226) (c228 : T 228) (c229 : T 229) (c231 : T 231) (c295 : T 295) (c296 : T 296) : S := .seq (.reg [mK 4 (.b false)]) (.seq (.seq (.reg [mM 6 0, mU 7 (.nilCheck 6), mF 0 8 7, mL 9 8, mQ 10 226 [9] c226, mQ 11 231 [10] c231, mU 12 (.un .not 11)]) (.cond 12 (.seq (.reg [mK 4 (.b false)]) .ret) .skip)) (.seq (.reg [mM 13 0, mM 14 0, mU 15 (.nilCheck 14), mF 0 16 15, mL 17 16, mQ 18 229 [17, .fn 294] c229, mQ 19 228 [13, 18] c228, mM 5 19]) (.seq (.reg [mM 20 0, mM 21 1, mM 22 5, mQ 23 296 [22] c296, mQ 24 295 [20, 21, 23, .c 0] c295]) (.seq (.reg [mM 25 5, mU 26 (.lenS 25), mB .leq 27 26 (.c 20), mM 4 27]) .ret))))
def r232 : List ARes := [.t 4]
theorem k232 (c226 : T 226) (c228 : T 228) (c229 : T 229) (c231 : T 231) (c295 : T 295) (c296 : T 296) : compFn Tryz.prog 232 = some ⟨28, (s232 c226 c228 c229 c231 c295 c296).er, r232⟩ := by kernel_rfl
abbrev q232 (O : Ops Tryz.prog) (c226 : T 226) (c228 : T 228) (c229 : T 229) (c231 : T 231) (c295 : T 295) (c296 : T 296) := curF 2 (sfn O (s232 c226 c228 c229 c231 c295 c296) r232)
def g232 : { g // g = q232 } := by
  have h : q232 = q232 := rfl
  conv at h => rhs; reduce
  exact ⟨_, h.symm⟩
def C232 : T 232 := mkRun 2 (k232 C226 C228 C229 C231 C295 C296) (by decide) (g232.1 (theOps Tryz.prog) C226 C228 C229 C231 C295 C296) (by rw [g232.2])
/- 234: (*rampart/lex.text).number -/
def s234 (c226 : T 226) (c228 : T 228) (c229 : T 229) (c231 : T 231) (c295 : T 295) : S := .seq (.reg [mK 2 (.b false)]) (.seq (.reg [mK 3 0]) (.seq (.seq (.reg [mM 6 0, mM 7 0, mU 8 (.nilCheck 7), mF 0 9 8, mL 10 9, mQ 11 229 [10, .fn 233] c229, mQ 12 228 [6, 11] c228, mN 13 (.rangeS 12)]) (.block 0 (.loop [3] [0, 13] (.seq (.reg [mY 14 (.nextS 13), mU 15 (.extract 0 14)]) (.seq (.cond 15 .skip (.exit 0)) (.block 1 (.seq (.reg [mU 16 (.extract 2 14), mM 5 16]) (.reg [mM 17 3, mB .mul 18 17 (.c 10), mM 19 5, mB .sub 20 19 (.c (.i .i32 48)), mU 21 (.conv .i64 20), mB .add 22 18 21, mU 23 (.mxmn false [22, .c 1000000000000]), mM 3 23])))))))) (.seq (.reg [mM 24 0, mM 25 3, mQ 26 295 [24, .c 2, .c (.s []), 25] c295]) (.seq (.reg [mM 27 3, mB .leq 28 27 (.c 999999999999), mM 29 28, (mM 30 0).g 29 true, (mU 31 (.nilCheck 30)).g 29 true, (mF 0 32 31).g 29 true, (mL 33 32).g 29 true, (mQ 34 226 [33] c226).g 29 true, (mQ 35 231 [34] c231).g 29 true, (mU 36 (.un .not 35)).g 29 true, mU 37 (.pick 29 36 (.c (.b false))), mM 2 37]) .ret))))
def r234 : List ARes := [.t 2]
theorem k234 (c226 : T 226) (c228 : T 228) (c229 : T 229) (c231 : T 231) (c295 : T 295) : compFn Tryz.prog 234 = some ⟨38, (s234 c226 c228 c229 c231 c295).er, r234⟩ := by kernel_rfl
abbrev q234 (O : Ops Tryz.prog) (c226 : T 226) (c228 : T 228) (c229 : T 229) (c231 : T 231) (c295 : T 295) := curF 1 (sfn O (s234 c226 c228 c229 c231 c295) r234)
def g234 : { g // g = q234 } := by
  have h : q234 = q234 := rfl
  conv at h => rhs; reduce
  exact ⟨_, h.symm⟩
def C234 : T 234 := mkRun 1 (k234 C226 C228 C229 C231 C295) (by decide) (g234.1 (theOps Tryz.prog) C226 C228 C229 C231 C295) (by rw [g234.2])
/- 342: rampart/lex.hex -/
def s342 (c233 : T 233) : S := .seq (.reg [mK 2 0]) (.seq (.block 0 (.seq (.reg [mM 4 0, mQ 5 233 [4] c233, mM 3 5]) (.cond 3 (.seq (.reg [mM 6 0, mB .sub 7 6 (.c (.i .i32 48)), mU 8 (.conv .i64 7), mM 2 8]) .ret) (.seq (.reg [mM 10 0, mB .geq 11 10 (.c (.i .i32 97)), mM 12 11, (mM 13 0).g 12 true, (mB .leq 14 13 (.c (.i .i32 102))).g 12 true, mU 15 (.pick 12 14 (.c (.b false))), mM 9 15]) (.cond 9 (.seq (.reg [mM 16 0, mB .sub 17 16 (.c (.i .i32 97)), mU 18 (.conv .i64 17), mB .add 19 18 (.c 10), mM 2 19]) .ret) (.seq (.reg [mM 21 0, mB .geq 22 21 (.c (.i .i32 65)), mM 23 22, (mM 24 0).g 23 true, (mB .leq 25 24 (.c (.i .i32 70))).g 23 true, mU 26 (.pick 23 25 (.c (.b false))), mM 20 26]) (.cond 20 (.seq (.reg [mM 27 0, mB .sub 28 27 (.c (.i .i32 65)), mU 29 (.conv .i64 28), mB .add 30 29 (.c 10), mM 2 30]) .ret) .skip))))))) (.seq (.reg [mK 2 (.i .i64 (-1))]) .ret))
def r342 : List ARes := [.t 2]
theorem k342 (c233 : T 233) : compFn Tryz.prog 342 = some ⟨31, (s342 c233).er, r342⟩ := by kernel_rfl
abbrev q342 (O : Ops Tryz.prog) (c233 : T 233) := curF 1 (sfn O (s342 c233) r342)
def g342 : { g // g = q342 } := by
  have h : q342 = q342 := rfl
  conv at h => rhs; reduce
  exact ⟨_, h.symm⟩
def C342 : T 342 := mkRun 1 (k342 C233) (by decide) (g342.1 (theOps Tryz.prog) C233) (by rw [g342.2])
/- 297: (*rampart/lex.text).pairs -/
def s297 (c228 : T 228) (c342 : T 342) : S := .seq (.reg [mK 4 (.sl 0 none 0 0), mK 5 (.b false)]) (.seq (.reg [mK 6 (.i .i64 (-1)), mK 7 (.b false)]) (.seq (.join [0, 1, 6, 7, 15] [] (.reg [mM 11 0, mU 12 (.nilCheck 11), mF 0 13 12, mL 14 13, mN 15 (.rangeS 14)]) (.block 0 (.loop [1, 6, 7] [0, 15] (.join [0, 1, 6, 7, 15, 16, 17] [] (.reg [mY 16 (.nextS 15), mU 17 (.extract 0 16)]) (.seq (.cond 17 .skip (.exit 0)) (.block 1 (.join [0, 1, 6, 7, 8, 9, 15] [] (.reg [mU 18 (.extract 1 16), mU 19 (.extract 2 16), mM 8 18, mM 9 19]) (.seq (.reg [mM 20 9, mQ 21 342 [20] c342, mM 10 21]) (.block 2 (.seq (.reg [mM 31 9, mB .eql 32 31 (.c (.i .i32 124)), mM 30 32]) (.cond 30 (.seq (.reg [mM 33 0, mM 34 8, mB .add 35 34 (.c 1), mQ 36 228 [33, 35] c228]) (.seq (.reg [mM 37 1, mM 38 7, mM 39 38, (mM 40 6).g 39 true, (mB .lss 41 40 (.c 0)).g 39 true, mU 42 (.pick 39 41 (.c (.b false))), mM 4 37, mM 5 42]) .ret)) (.seq (.reg [mM 44 9, mB .eql 45 44 (.c (.i .i32 32)), mM 46 45, (mM 47 6).g 46 true, (mB .lss 48 47 (.c 0)).g 46 true, mU 49 (.pick 46 48 (.c (.b false))), mM 43 49]) (.cond 43 .skip (.seq (.reg [mM 51 10, mB .lss 52 51 (.c 0), mM 50 52]) (.cond 50 (.seq (.reg [mK 4 (.sl 0 none 0 0), mK 5 (.b false)]) .ret) (.seq (.reg [mM 54 6, mB .lss 55 54 (.c 0), mM 53 55]) (.cond 53 (.reg [mM 56 10, mM 6 56]) (.reg [mM 22 1, mM 23 6, mB .shl 24 23 (.c (.i .u64 4)), mM 25 10, mB .or 26 24 25, mU 27 (.conv .u8 26), mN 28 (.bslice 1 1 [.i .u8 0] [(0, (1, 27))]), mY 29 (.append 1 1 22 28), mM 1 29, mK 6 (.i .i64 (-1)), mK 7 (.b true)])))))))))))))))))) (.seq (.reg [mK 4 (.sl 0 none 0 0), mK 5 (.b false)]) .ret)))
def r297 : List ARes := [.t 4, .t 5]
theorem k297 (c228 : T 228) (c342 : T 342) : compFn Tryz.prog 297 = some ⟨57, (s297 c228 c342).er, r297⟩ := by kernel_rfl
abbrev q297 (O : Ops Tryz.prog) (c228 : T 228) (c342 : T 342) := curF 2 (sfn O (s297 c228 c342) r297)
def g297 : { g // g = q297 } := by
  have h : q297 = q297 := rfl
  conv at h => rhs; reduce
  exact ⟨_, h.symm⟩
def C297 : T 297 := mkRun 2 (k297 C228 C342) (by decide) (g297.1 (theOps Tryz.prog) C228 C342) (by rw [g297.2])
/- 235: (*rampart/lex.text).bytes -/
def s235 (c226 : T 226) (c228 : T 228) (c295 : T 295) (c297 : T 297) (c298 : T 298) : S := .seq (.reg [mK 2 (.b false)]) (.seq (.reg [mK 3 (.sl 0 none 0 0)]) (.seq (.block 0 (.loop [3] [0] (.join [0, 3] [] (.seq (.reg [mM 6 0, mU 7 (.nilCheck 6), mF 0 8 7, mL 9 8, mB .neq 10 9 (.c (.s []))]) (.cond 10 .skip (.exit 0))) (.block 1 (.join [0, 3, 4] [] (.reg [mM 11 0, mU 12 (.nilCheck 11), mF 0 13 12, mL 14 13, mQ 15 226 [14] c226, mM 4 15]) (.seq (.reg [mM 16 0, mQ 17 228 [16, .c 1] c228]) (.join [0, 3, 4, 5] [] (.reg [mM 18 4, mB .geq 19 18 (.c (.i .i32 32)), mM 20 19, (mM 21 4).g 20 true, (mB .leq 22 21 (.c (.i .i32 126))).g 20 true, mU 23 (.pick 20 22 (.c (.b false))), mM 5 23]) (.join [0, 3, 5] [] (.seq (.reg [mM 24 4]) (.block 2 (.seq (.reg [mB .eql 31 24 (.c (.i .i32 34)), mM 30 31]) (.cond 30 (.seq (.reg [mM 32 0, mM 33 3, mR 34 (.b2s 33), mQ 35 295 [32, .c 3, 34, .c 0] c295]) (.seq (.reg [mK 2 (.b true)]) .ret)) (.seq (.reg [mB .eql 37 24 (.c (.i .i32 124)), mM 36 37]) (.cond 36 (.reg [mM 39 0, mM 40 3, mQ 41 297 [39, 40] c297, mM 38 41, mU 42 (.extract 0 38), mU 43 (.extract 1 38), mM 3 42, mM 5 43]) (.seq (.reg [mB .eql 45 24 (.c (.i .i32 92)), mM 44 45]) (.cond 44 (.seq (.reg [mM 46 0, mU 47 (.nilCheck 46), mF 0 48 47, mL 49 48, mQ 50 226 [49] c226, mM 4 50]) (.seq (.reg [mM 51 4, mQ 52 298 [.c (.s [34, 124, 92]), 51] c298, mM 5 52]) (.seq (.reg [mM 53 5]) (.cond 53 (.reg [mM 54 3, mM 55 0, mQ 56 228 [55, .c 1] c228, mY 57 (.append 1 1 54 56), mM 3 57]) .skip)))) (.reg [mM 25 3, mM 26 4, mU 27 (.conv .u8 26), mN 28 (.bslice 1 1 [.i .u8 0] [(0, (1, 27))]), mY 29 (.append 1 1 25 28), mM 3 29]))))))))) (.seq (.reg [mM 58 5, mU 59 (.un .not 58)]) (.cond 59 (.seq (.reg [mK 2 (.b false)]) .ret) .skip)))))))))) (.seq (.reg [mK 2 (.b false)]) .ret)))
def r235 : List ARes := [.t 2]
theorem k235 (c226 : T 226) (c228 : T 228) (c295 : T 295) (c297 : T 297) (c298 : T 298) : compFn Tryz.prog 235 = some ⟨60, (s235 c226 c228 c295 c297 c298).er, r235⟩ := by kernel_rfl
abbrev q235 (O : Ops Tryz.prog) (c226 : T 226) (c228 : T 228) (c295 : T 295) (c297 : T 297) (c298 : T 298) := curF 1 (sfn O (s235 c226 c228 c295 c297 c298) r235)
def g235 : { g // g = q235 } := by
  have h : q235 = q235 := rfl
  conv at h => rhs; reduce
  exact ⟨_, h.symm⟩
def C235 : T 235 := mkRun 1 (k235 C226 C228 C295 C297 C298) (by decide) (g235.1 (theOps Tryz.prog) C226 C228 C295 C297 C298) (by rw [g235.2])
/- 214: internal/stringslite.HasPrefix -/
def s214 : S := .seq (.reg [mK 4 (.b false)]) (.seq (.reg [mM 5 0, mU 6 (.lenS 5), mM 7 1, mU 8 (.lenS 7), mB .geq 9 6 8, mM 10 9, (mM 11 0).g 10 true, (mM 12 1).g 10 true, (mU 13 (.lenS 12)).g 10 true, (mU 14 (.slStr 11 none (some 13))).g 10 true, (mM 15 1).g 10 true, (mB .eql 16 14 15).g 10 true, mU 17 (.pick 10 16 (.c (.b false))), mM 4 17]) .ret)
def r214 : List ARes := [.t 4]
theorem k214 : compFn Tryz.prog 214 = some ⟨18, (s214).er, r214⟩ := by kernel_rfl
abbrev q214 (O : Ops Tryz.prog) := curF 2 (sfn O (s214) r214)
def g214 : { g // g = q214 } := by
  have h : q214 = q214 := rfl
  conv at h => rhs; reduce
  exact ⟨_, h.symm⟩
def C214 : T 214 := mkRun 2 (k214) (by decide) (g214.1 (theOps Tryz.prog)) (by rw [g214.2])
/- 142: strings.HasPrefix -/
def s142 (c214 : T 214) : S := .seq (.reg [mK 4 (.b false)]) (.seq (.reg [mM 5 0, mM 6 1, mQ 7 214 [5, 6] c214, mM 4 7]) .ret)
def r142 : List ARes := [.t 4]
theorem k142 (c214 : T 214) : compFn Tryz.prog 142 = some ⟨8, (s142 c214).er, r142⟩ := by kernel_rfl
abbrev q142 (O : Ops Tryz.prog) (c214 : T 214) := curF 2 (sfn O (s142 c214) r142)
def g142 : { g // g = q142 } := by
  have h : q142 = q142 := rfl
  conv at h => rhs; reduce
  exact ⟨_, h.symm⟩
def C142 : T 142 := mkRun 2 (k142 C214) (by decide) (g142.1 (theOps Tryz.prog) C214) (by rw [g142.2])
/- 236: (*rampart/lex.text).sign -/
def s236 (c142 : T 142) (c226 : T 226) (c228 : T 228) (c295 : T 295) (c298 : T 298) : S := .seq (.reg [mK 2 (.b false)]) (.seq (.join [0, 5, 6, 7] [] (.reg [mN 5 (.bslice 1 2 [.s [], .s []] [(0, (1, .c (.s [45, 62]))), (1, (1, .c (.s [60, 62])))]), mU 6 (.lenSl 5), mK 7 0]) (.block 0 (.loop [7] [0, 5, 6] (.seq (.reg [mB .lss 8 7 6]) (.seq (.cond 8 .skip (.exit 0)) (.seq (.block 1 (.seq (.reg [mU 9 (.idxAddrSl 1 5 7), mL 10 9, mM 4 10]) (.seq (.reg [mM 11 0, mU 12 (.nilCheck 11), mF 0 13 12, mL 14 13, mM 15 4, mQ 16 142 [14, 15] c142]) (.cond 16 (.seq (.reg [mM 17 0, mM 18 0, mM 19 4, mU 20 (.lenS 19), mQ 21 228 [18, 20] c228, mQ 22 295 [17, .c 4, 21, .c 0] c295]) (.seq (.reg [mK 2 (.b true)]) .ret)) .skip)))) (.reg [mB .add 23 7 (.c 1), mM 7 23]))))))) (.seq (.seq (.reg [mM 24 0, mU 25 (.nilCheck 24), mF 0 26 25, mL 27 26, mQ 28 226 [27] c226, mQ 29 298 [.c (.s [40, 41, 59, 58, 44, 47, 91, 93, 33, 45, 46, 61]), 28] c298, mU 30 (.un .not 29)]) (.cond 30 (.seq (.reg [mK 2 (.b false)]) .ret) .skip)) (.seq (.reg [mM 31 0, mM 32 0, mQ 33 228 [32, .c 1] c228, mQ 34 295 [31, .c 4, 33, .c 0] c295]) (.seq (.reg [mK 2 (.b true)]) .ret))))
def r236 : List ARes := [.t 2]
theorem k236 (c142 : T 142) (c226 : T 226) (c228 : T 228) (c295 : T 295) (c298 : T 298) : compFn Tryz.prog 236 = some ⟨35, (s236 c142 c226 c228 c295 c298).er, r236⟩ := by kernel_rfl
abbrev q236 (O : Ops Tryz.prog) (c142 : T 142) (c226 : T 226) (c228 : T 228) (c295 : T 295) (c298 : T 298) := curF 1 (sfn O (s236 c142 c226 c228 c295 c298) r236)
def g236 : { g // g = q236 } := by
  have h : q236 = q236 := rfl
  conv at h => rhs; reduce
  exact ⟨_, h.symm⟩
def C236 : T 236 := mkRun 1 (k236 C142 C226 C228 C295 C298) (by decide) (g236.1 (theOps Tryz.prog) C142 C226 C228 C295 C298) (by rw [g236.2])
/- 149: (*rampart/lex.text).next -/
def s149 (c226 : T 226) (c227 : T 227) (c228 : T 228) (c229 : T 229) (c231 : T 231) (c232 : T 232) (c233 : T 233) (c234 : T 234) (c235 : T 235) (c236 : T 236) : S := .seq (.reg [mK 2 (.b false)]) (.join [0, 3] [] (.reg [mM 4 0, mU 5 (.nilCheck 4), mF 0 6 5, mL 7 6, mQ 8 226 [7] c226, mM 3 8]) (.join [] [] (.block 0 (.seq (.reg [mM 12 3, mQ 13 227 [12] c227, mM 11 13]) (.cond 11 (.reg [mM 14 0, mQ 15 228 [14, .c 1] c228]) (.seq (.reg [mM 17 3, mB .eql 18 17 (.c (.i .i32 10)), mM 16 18]) (.cond 16 (.seq (.reg [mM 19 0, mQ 20 228 [19, .c 1] c228]) (.reg [mM 21 0, mU 22 (.nilCheck 21), mF 1 23 22, mL 24 23, mB .add 25 24 (.c 1), mU 26 (.nilCheck 21), mF 1 27 26, mZ (.st 1 27 25)])) (.seq (.reg [mM 29 3, mB .eql 30 29 (.c (.i .i32 35)), mM 28 30]) (.cond 28 (.reg [mM 31 0, mM 32 0, mU 33 (.nilCheck 32), mF 0 34 33, mL 35 34, mQ 36 229 [35, .fn 230] c229, mQ 37 228 [31, 36] c228]) (.seq (.reg [mM 39 3, mQ 40 231 [39] c231, mM 38 40]) (.cond 38 (.seq (.reg [mM 41 0, mQ 42 232 [41, .c 1] c232, mM 2 42]) .ret) (.seq (.reg [mM 44 3, mQ 45 233 [44] c233, mM 43 45]) (.cond 43 (.seq (.reg [mM 46 0, mQ 47 234 [46] c234, mM 2 47]) .ret) (.seq (.reg [mM 49 3, mB .eql 50 49 (.c (.i .i32 36)), mM 48 50]) (.cond 48 (.seq (.reg [mM 51 0, mQ 52 228 [51, .c 1] c228]) (.seq (.reg [mM 53 0, mQ 54 232 [53, .c 5] c232, mM 2 54]) .ret)) (.seq (.reg [mM 56 3, mB .eql 57 56 (.c (.i .i32 34)), mM 55 57]) (.cond 55 (.seq (.reg [mM 58 0, mQ 59 228 [58, .c 1] c228]) (.seq (.reg [mM 60 0, mQ 61 235 [60] c235, mM 2 61]) .ret)) (.seq (.reg [mM 9 0, mQ 10 236 [9] c236, mM 2 10]) .ret)))))))))))))))) (.seq (.reg [mK 2 (.b true)]) .ret)))
def r149 : List ARes := [.t 2]
theorem k149 (c226 : T 226) (c227 : T 227) (c228 : T 228) (c229 : T 229) (c231 : T 231) (c232 : T 232) (c233 : T 233) (c234 : T 234) (c235 : T 235) (c236 : T 236) : compFn Tryz.prog 149 = some ⟨62, (s149 c226 c227 c228 c229 c231 c232 c233 c234 c235 c236).er, r149⟩ := by kernel_rfl
abbrev q149 (O : Ops Tryz.prog) (c226 : T 226) (c227 : T 227) (c228 : T 228) (c229 : T 229) (c231 : T 231) (c232 : T 232) (c233 : T 233) (c234 : T 234) (c235 : T 235) (c236 : T 236) := curF 1 (sfn O (s149 c226 c227 c228 c229 c231 c232 c233 c234 c235 c236) r149)
def g149 : { g // g = q149 } := by
  have h : q149 = q149 := rfl
  conv at h => rhs; reduce
  exact ⟨_, h.symm⟩
def C149 : T 149 := mkRun 1 (k149 C226 C227 C228 C229 C231 C232 C233 C234 C235 C236) (by decide) (g149.1 (theOps Tryz.prog) C226 C227 C228 C229 C231 C232 C233 C234 C235 C236) (by rw [g149.2])
/- 90: rampart/lex.All -/
def s90 (c149 : T 149) : S := .seq (.reg [mK 2 (.sl 0 none 0 0), mK 3 0, mK 4 0]) (.join [0] [] (.seq (.reg [mM 6 0, mU 7 (.lenS 6), mB .gtr 8 7 (.c 8192)]) (.cond 8 (.seq (.reg [mK 2 (.sl 0 none 0 0), mK 3 0, mK 4 5]) .ret) .skip)) (.join [5] [] (.reg [mM 9 0, mU 10 (.build [.s [], 0, .sl 0 none 0 0] [(0, (1, 9)), (1, (1, .c 1))]), mN 11 (.box 10), mM 5 11]) (.seq (.block 0 (.loop [] [5] (.join [5] [] (.seq (.reg [mM 12 5, mU 13 (.nilCheck 12), mF 0 14 13, mL 15 14, mB .neq 16 15 (.c (.s []))]) (.cond 16 .skip (.exit 0))) (.block 1 (.seq (.reg [mM 17 5, mQ 18 149 [17] c149, mU 19 (.un .not 18)]) (.cond 19 (.seq (.draw 0 [⟨[], [⟨0, ⟨some 20, .pure (.mv 5), none⟩, 0⟩, ⟨1, ⟨some 21, .pure (.nilCheck 20), none⟩, 0⟩, ⟨2, ⟨some 22, .pure (.fieldAddr 1 21), none⟩, 0⟩, ⟨3, ⟨some 23, .read (.ld1 22), none⟩, 0⟩, ⟨4, ⟨some 2, .pure (.mv (.c (.sl 0 none 0 0))), none⟩, 0⟩, ⟨5, ⟨some 3, .pure (.mv 23), none⟩, 0⟩, ⟨6, ⟨some 4, .pure (.mv (.c 6)), none⟩, 0⟩], none⟩]) .ret) .skip)))))) (.seq (.reg [mM 24 5, mU 25 (.nilCheck 24), mF 2 26 25, mL 27 26, mM 2 27, mK 3 0, mK 4 0]) .ret))))
def r90 : List ARes := [.t 2, .t 3, .t 4]
theorem k90 (c149 : T 149) : compFn Tryz.prog 90 = some ⟨28, (s90 c149).er, r90⟩ := by kernel_rfl
abbrev q90 (O : Ops Tryz.prog) (c149 : T 149) := curF 1 (sfn O (s90 c149) r90)
def g90 : { g // g = q90 } := by
  have h : q90 = q90 := rfl
  conv at h => rhs; reduce
  exact ⟨_, h.symm⟩
def C90 : T 90 := mkRun 1 (k90 C149) (by decide) (g90.1 (theOps Tryz.prog) C149) (by rw [g90.2])
/- 154: rampart/ports.Check -/
def s154 : S := .seq (.reg [mN 1 (.box 0), mK 2 (.b false)]) (.join [1, 3] [] (.reg [mF 1 6 1, mL 7 6, mU 8 (.lenSl 7), mB .leq 9 8 (.c 4), mM 3 9]) (.seq (.join [3, 11, 12, 13] [] (.reg [mF 1 10 1, mL 11 10, mU 12 (.lenSl 11), mK 13 0]) (.block 0 (.loop [3, 13] [11, 12] (.seq (.reg [mB .lss 14 13 12]) (.seq (.cond 14 .skip (.exit 0)) (.seq (.block 1 (.join [3, 5, 11, 12, 13] [] (.reg [mU 15 (.idxAddrSl 2 11 13), mR 16 (.ldN 2 15), mN 5 (.newz [0, 0]), mZ (.st 2 5 16)]) (.reg [mM 17 3, mM 18 17, (mF 0 19 5).g 18 true, (mL 20 19).g 18 true, (mB .geq 21 20 (.c 0)).g 18 true, mU 22 (.pick 18 21 (.c (.b false))), mM 23 22, (mF 0 24 5).g 23 true, (mL 25 24).g 23 true, (mF 1 26 5).g 23 true, (mL 27 26).g 23 true, (mB .leq 28 25 27).g 23 true, mU 29 (.pick 23 28 (.c (.b false))), mM 30 29, (mF 1 31 5).g 30 true, (mL 32 31).g 30 true, (mB .leq 33 32 (.c 65535)).g 30 true, mU 34 (.pick 30 33 (.c (.b false))), mM 3 34]))) (.reg [mB .add 35 13 (.c 1), mM 13 35]))))))) (.seq (.reg [mM 36 3, mM 2 36]) .ret)))
def r154 : List ARes := [.t 2]
theorem k154 : compFn Tryz.prog 154 = some ⟨37, (s154).er, r154⟩ := by kernel_rfl
abbrev q154 (O : Ops Tryz.prog) := curF 1 (sfn O (s154) r154)
def g154 : { g // g = q154 } := by
  have h : q154 = q154 := rfl
  conv at h => rhs; reduce
  exact ⟨_, h.symm⟩
def C154 : T 154 := mkRun 1 (k154) (by decide) (g154.1 (theOps Tryz.prog)) (by rw [g154.2])
/- 238: rampart/ports.marks -/
def s238 : S := .seq (.reg [mK 2 (.m none)]) (.seq (.reg [mN 6 .mkmap, mM 3 6]) (.seq (.seq (.reg [mM 7 0, mU 8 (.lenSl 7), mK 9 0]) (.block 0 (.loop [9] [3, 7, 8] (.seq (.reg [mB .lss 10 9 8]) (.seq (.cond 10 .skip (.exit 0)) (.seq (.block 1 (.join [3, 5, 7, 8, 9] [] (.reg [mU 11 (.idxAddrSl 2 7 9), mR 12 (.ldN 2 11), mN 5 (.newz [0, 0]), mZ (.st 2 5 12)]) (.seq (.reg [mM 13 3, mF 0 14 5, mL 15 14, mR 16 (.lookup (.one .i) 0 false 13 15), mB .add 17 16 (.c 1), mZ (.mapUpd (.one .i) 13 15 17)]) (.reg [mM 18 3, mF 1 19 5, mL 20 19, mB .add 21 20 (.c 1), mR 22 (.lookup (.one .i) 0 false 18 21), mB .sub 23 22 (.c 1), mZ (.mapUpd (.one .i) 18 21 23)])))) (.reg [mB .add 24 9 (.c 1), mM 9 24]))))))) (.seq (.reg [mM 25 3, mM 2 25]) .ret)))
def r238 : List ARes := [.t 2]
theorem k238 : compFn Tryz.prog 238 = some ⟨26, (s238).er, r238⟩ := by kernel_rfl
abbrev q238 (O : Ops Tryz.prog) := curF 1 (sfn O (s238) r238)
def g238 : { g // g = q238 } := by
  have h : q238 = q238 := rfl
  conv at h => rhs; reduce
  exact ⟨_, h.symm⟩
def C238 : T 238 := mkRun 1 (k238) (by decide) (g238.1 (theOps Tryz.prog)) (by rw [g238.2])
/- 156: rampart/ports.Clean -/
def s156 (c154 : T 154) (c238 : T 238) (c239 : T 239) (c240 : T 240) : S := .join [1, 2] [] (.reg [mN 1 (.box 0), mN 2 (.newz [.b false, .sl 0 none 0 0])]) (.join [1, 2] [] (.seq (.reg [mR 10 (.ldN 2 1), mQ 11 154 [10] c154, mU 12 (.un .not 11)]) (.cond 12 (.seq (.reg [mU 13 (.build [.b false, .sl 0 none 0 0] []), mZ (.st 2 2 13)]) .ret) .skip)) (.join [1, 2, 3] [] (.reg [mF 0 14 1, mL 15 14, mU 16 (.build [.b false, .sl 0 none 0 0] [(0, (1, 15))]), mN 3 (.newz [.b false, .sl 0 none 0 0]), mZ (.st 2 3 16)]) (.join [2, 3, 4] [] (.reg [mF 1 17 1, mL 18 17, mQ 19 238 [18] c238, mM 4 19]) (.seq (.reg [mK 5 0, mK 6 0]) (.join [2, 3] [] (.join [2, 3, 4, 5, 6, 22, 23, 24] [] (.reg [mM 20 4, mQ 21 240 [20] c240, mQ 22 239 [21] c239, mU 23 (.lenSl 22), mK 24 0]) (.block 0 (.loop [5, 6, 24] [2, 3, 4, 22, 23] (.seq (.reg [mB .lss 25 24 23]) (.seq (.cond 25 .skip (.exit 0)) (.join [2, 3, 4, 5, 6, 22, 23, 24] [] (.block 1 (.join [2, 3, 4, 5, 6, 8, 22, 23, 24] [] (.reg [mU 26 (.idxAddrSl 1 22 24), mL 27 26, mM 8 27]) (.seq (.reg [mM 28 6, mM 9 28]) (.join [2, 3, 4, 5, 6, 8, 9, 22, 23, 24] [] (.reg [mM 29 6, mM 30 4, mM 31 8, mR 32 (.lookup (.one .i) 0 false 30 31), mB .add 33 29 32, mM 6 33]) (.block 2 (.join [2, 3, 4, 5, 6, 8, 9, 22, 23, 24, 34] [] (.reg [mM 35 9, mB .eql 36 35 (.c 0), mM 37 36, (mM 38 6).g 37 true, (mB .gtr 39 38 (.c 0)).g 37 true, mU 40 (.pick 37 39 (.c (.b false))), mM 34 40]) (.cond 34 (.reg [mM 41 8, mM 5 41]) (.seq (.reg [mM 43 9, mB .gtr 44 43 (.c 0), mM 45 44, (mM 46 6).g 45 true, (mB .eql 47 46 (.c 0)).g 45 true, mU 48 (.pick 45 47 (.c (.b false))), mM 42 48]) (.cond 42 (.reg [mF 1 49 3, mL 50 49, mM 51 5, mM 52 8, mB .sub 53 52 (.c 1), mU 54 (.build [0, 0] [(0, (1, 51)), (1, (1, 53))]), mN 55 (.bslice 2 1 [0, 0] [(0, (2, 54))]), mY 56 (.append 2 16 50 55), mF 1 57 3, mZ (.st 1 57 56)]) .skip))))))))) (.reg [mB .add 58 24 (.c 1), mM 24 58]))))))) (.join [2, 3] [] (.seq (.reg [mF 1 59 3, mL 60 59, mU 61 (.lenSl 60), mB .eql 62 61 (.c 1), mM 63 62, (mF 1 64 3).g 63 true, (mL 65 64).g 63 true, (mU 66 (.idxAddrSl 2 65 (.c 0))).g 63 true, (mR 67 (.ldN 2 66)).g 63 true, (mU 68 (.build [0, 0] [(1, (1, .c 65535))])).g 63 true, (mU 69 (.eqAgg false [(0, .i), (1, .i)] 67 68)).g 63 true, mU 70 (.pick 63 69 (.c (.b false)))]) (.cond 70 (.reg [mF 1 71 3, mZ (.st 1 71 (.c (.sl 0 none 0 0)))]) .skip)) (.seq (.reg [mR 72 (.ldN 2 3), mZ (.st 2 2 72)]) .ret)))))))
def r156 : List ARes := [.c true 2 2]
theorem k156 (c154 : T 154) (c238 : T 238) (c239 : T 239) (c240 : T 240) : compFn Tryz.prog 156 = some ⟨73, (s156 c154 c238 c239 c240).er, r156⟩ := by kernel_rfl
abbrev q156 (O : Ops Tryz.prog) (c154 : T 154) (c238 : T 238) (c239 : T 239) (c240 : T 240) := curF 1 (sfn O (s156 c154 c238 c239 c240) r156)
def g156 : { g // g = q156 } := by
  have h : q156 = q156 := rfl
  conv at h => rhs; reduce
  exact ⟨_, h.symm⟩
def C156 : T 156 := mkRun 1 (k156 C154 C238 C239 C240) (by decide) (g156.1 (theOps Tryz.prog) C154 C238 C239 C240) (by rw [g156.2])
/- 343: (*rampart/rule.parser).is -/
def s343 : S := .seq (.reg [mK 6 (.b false)]) (.seq (.draw 0 [⟨[], [⟨0, ⟨some 7, .pure (.mv 0), none⟩, 0⟩, ⟨1, ⟨some 8, .pure (.nilCheck 7), none⟩, 0⟩, ⟨2, ⟨some 9, .pure (.fieldAddr 1 8), none⟩, 0⟩, ⟨3, ⟨some 10, .read (.ld1 9), none⟩, 0⟩, ⟨4, ⟨some 11, .pure (.mv 0), none⟩, 0⟩, ⟨5, ⟨some 12, .pure (.nilCheck 11), none⟩, 0⟩, ⟨6, ⟨some 13, .pure (.fieldAddr 0 12), none⟩, 0⟩, ⟨7, ⟨some 14, .read (.ld1 13), none⟩, 0⟩, ⟨8, ⟨some 15, .pure (.lenSl 14), none⟩, 0⟩, ⟨9, ⟨some 16, .pure (.bin .lss 10 15), none⟩, 0⟩, ⟨10, ⟨some 17, .pure (.mv 16), none⟩, 0⟩, ⟨11, ⟨some 18, .pure (.mv 0), some (17, true)⟩, 0⟩, ⟨12, ⟨some 19, .pure (.nilCheck 18), some (17, true)⟩, 0⟩, ⟨13, ⟨some 20, .pure (.fieldAddr 0 19), some (17, true)⟩, 0⟩, ⟨14, ⟨some 21, .read (.ld1 20), some (17, true)⟩, 0⟩, ⟨15, ⟨some 22, .pure (.mv 0), some (17, true)⟩, 0⟩, ⟨16, ⟨some 23, .pure (.nilCheck 22), some (17, true)⟩, 0⟩, ⟨17, ⟨some 24, .pure (.fieldAddr 1 23), some (17, true)⟩, 0⟩, ⟨18, ⟨some 25, .read (.ld1 24), some (17, true)⟩, 0⟩, ⟨19, ⟨some 26, .pure (.idxAddrSl 4 21 25), some (17, true)⟩, 0⟩, ⟨20, ⟨some 27, .pure (.fieldAddr 0 26), some (17, true)⟩, 0⟩, ⟨21, ⟨some 28, .read (.ld1 27), some (17, true)⟩, 0⟩, ⟨22, ⟨some 29, .pure (.mv 1), some (17, true)⟩, 0⟩, ⟨23, ⟨some 30, .pure (.bin .eql 28 29), some (17, true)⟩, 0⟩, ⟨24, ⟨some 31, .pure (.pick 17 30 (.c (.b false))), none⟩, 0⟩, ⟨25, ⟨some 32, .pure (.mv 31), none⟩, 0⟩, ⟨26, ⟨some 33, .pure (.mv 0), some (32, true)⟩, 0⟩, ⟨27, ⟨some 34, .pure (.nilCheck 33), some (32, true)⟩, 0⟩, ⟨28, ⟨some 35, .pure (.fieldAddr 0 34), some (32, true)⟩, 0⟩, ⟨29, ⟨some 36, .read (.ld1 35), some (32, true)⟩, 0⟩, ⟨30, ⟨some 37, .pure (.mv 0), some (32, true)⟩, 0⟩, ⟨31, ⟨some 38, .pure (.nilCheck 37), some (32, true)⟩, 0⟩, ⟨32, ⟨some 39, .pure (.fieldAddr 1 38), some (32, true)⟩, 0⟩, ⟨33, ⟨some 40, .read (.ld1 39), some (32, true)⟩, 0⟩, ⟨34, ⟨some 41, .pure (.idxAddrSl 4 36 40), some (32, true)⟩, 0⟩, ⟨35, ⟨some 42, .pure (.fieldAddr 1 41), some (32, true)⟩, 0⟩, ⟨36, ⟨some 43, .read (.ld1 42), some (32, true)⟩, 0⟩, ⟨37, ⟨some 44, .pure (.mv 2), some (32, true)⟩, 0⟩, ⟨38, ⟨some 45, .pure (.bin .eql 43 44), some (32, true)⟩, 0⟩, ⟨39, ⟨some 46, .pure (.mv 45), some (32, true)⟩, 0⟩, ⟨40, ⟨some 47, .pure (.mv 2), some (46, false)⟩, 0⟩, ⟨41, ⟨some 48, .pure (.bin .eql 47 (.c (.s []))), some (46, false)⟩, 0⟩, ⟨42, ⟨some 49, .pure (.pick 46 (.c (.b true)) 48), some (32, true)⟩, 0⟩, ⟨43, ⟨some 50, .pure (.pick 32 49 (.c (.b false))), none⟩, 0⟩, ⟨44, ⟨some 6, .pure (.mv 50), none⟩, 0⟩], none⟩]) .ret)
def r343 : List ARes := [.t 6]
theorem k343 : compFn Tryz.prog 343 = some ⟨51, (s343).er, r343⟩ := by kernel_rfl
abbrev q343 (O : Ops Tryz.prog) := curF 3 (sfn O (s343) r343)
def g343 : { g // g = q343 } := by
  have h : q343 = q343 := rfl
  conv at h => rhs; reduce
  exact ⟨_, h.symm⟩
def C343 : T 343 := mkRun 3 (k343) (by decide) (g343.1 (theOps Tryz.prog)) (by rw [g343.2])
/- 299: (*rampart/rule.parser).has -/
def s299 (c343 : T 343) : S := .seq (.reg [mK 6 (.b false)]) (.seq (.reg [mM 8 0, mM 9 1, mM 10 2, mQ 11 343 [8, 9, 10] c343, mM 7 11]) (.join [7] [] (.seq (.reg [mM 12 7]) (.cond 12 (.reg [mM 13 0, mU 14 (.nilCheck 13), mF 1 15 14, mL 16 15, mB .add 17 16 (.c 1), mU 18 (.nilCheck 13), mF 1 19 18, mZ (.st 1 19 17)]) .skip)) (.seq (.reg [mM 20 7, mM 6 20]) .ret)))
def r299 : List ARes := [.t 6]
theorem k299 (c343 : T 343) : compFn Tryz.prog 299 = some ⟨21, (s299 c343).er, r299⟩ := by kernel_rfl
abbrev q299 (O : Ops Tryz.prog) (c343 : T 343) := curF 3 (sfn O (s299 c343) r299)
def g299 : { g // g = q299 } := by
  have h : q299 = q299 := rfl
  conv at h => rhs; reduce
  exact ⟨_, h.symm⟩
def C299 : T 299 := mkRun 3 (k299 C343) (by decide) (g299.1 (theOps Tryz.prog) C343) (by rw [g299.2])
/- 344: (*rampart/rule.parser).fail -/
def s344 : S := .seq (.reg [mK 2 1]) (.join [2] [] (.join [0, 2, 3] [] (.reg [mM 4 0, mU 5 (.nilCheck 4), mF 0 6 5, mL 7 6, mU 8 (.lenSl 7), mM 3 8]) (.block 0 (.join [0, 2, 3, 9] [] (.reg [mM 10 0, mU 11 (.nilCheck 10), mF 1 12 11, mL 13 12, mM 14 3, mB .lss 15 13 14, mM 9 15]) (.cond 9 (.draw 0 [⟨[], [⟨0, ⟨some 16, .pure (.mv 0), none⟩, 0⟩, ⟨1, ⟨some 17, .pure (.nilCheck 16), none⟩, 0⟩, ⟨2, ⟨some 18, .pure (.fieldAddr 0 17), none⟩, 0⟩, ⟨3, ⟨some 19, .read (.ld1 18), none⟩, 0⟩, ⟨4, ⟨some 20, .pure (.mv 0), none⟩, 0⟩, ⟨5, ⟨some 21, .pure (.nilCheck 20), none⟩, 0⟩, ⟨6, ⟨some 22, .pure (.fieldAddr 1 21), none⟩, 0⟩, ⟨7, ⟨some 23, .read (.ld1 22), none⟩, 0⟩, ⟨8, ⟨some 24, .pure (.idxAddrSl 4 19 23), none⟩, 0⟩, ⟨9, ⟨some 25, .pure (.fieldAddr 3 24), none⟩, 0⟩, ⟨10, ⟨some 26, .read (.ld1 25), none⟩, 0⟩, ⟨11, ⟨some 2, .pure (.mv 26), none⟩, 0⟩], none⟩]) (.seq (.reg [mM 28 3, mB .gtr 29 28 (.c 0), mM 27 29]) (.cond 27 (.reg [mM 30 0, mU 31 (.nilCheck 30), mF 0 32 31, mL 33 32, mM 34 3, mB .sub 35 34 (.c 1), mU 36 (.idxAddrSl 4 33 35), mF 3 37 36, mL 38 37, mM 2 38]) .skip)))))) (.reg [mM 39 2, mU 40 (.build [0] [(0, (1, 39))]), mU 41 (.mkIface 261 40), ⟨none, .pan 41, none⟩]))
def r344 : List ARes := []
theorem k344 : compFn Tryz.prog 344 = some ⟨42, (s344).er, r344⟩ := by kernel_rfl
abbrev q344 (O : Ops Tryz.prog) := curF 1 (sfn O (s344) r344)
def g344 : { g // g = q344 } := by
  have h : q344 = q344 := rfl
  conv at h => rhs; reduce
  exact ⟨_, h.symm⟩
def C344 : T 344 := mkRun 1 (k344) (by decide) (g344.1 (theOps Tryz.prog)) (by rw [g344.2])
/- 300: (*rampart/rule.parser).must -/
def s300 (c299 : T 299) (c344 : T 344) : S := .seq (.reg [mN 6 (.newz [0, .s [], 0, 0])]) (.join [0, 6] [] (.seq (.reg [mM 7 0, mM 8 1, mM 9 2, mQ 10 299 [7, 8, 9] c299, mU 11 (.un .not 10)]) (.cond 11 (.reg [mM 12 0, mQ 13 344 [12] c344]) .skip)) (.seq (.draw 0 [⟨[], [⟨0, ⟨some 14, .pure (.mv 0), none⟩, 0⟩, ⟨1, ⟨some 15, .pure (.nilCheck 14), none⟩, 0⟩, ⟨2, ⟨some 16, .pure (.fieldAddr 0 15), none⟩, 0⟩, ⟨3, ⟨some 17, .read (.ld1 16), none⟩, 0⟩, ⟨4, ⟨some 18, .pure (.mv 0), none⟩, 0⟩, ⟨5, ⟨some 19, .pure (.nilCheck 18), none⟩, 0⟩, ⟨6, ⟨some 20, .pure (.fieldAddr 1 19), none⟩, 0⟩, ⟨7, ⟨some 21, .read (.ld1 20), none⟩, 0⟩, ⟨8, ⟨some 22, .pure (.bin .sub 21 (.c 1)), none⟩, 0⟩, ⟨9, ⟨some 23, .pure (.idxAddrSl 4 17 22), none⟩, 0⟩, ⟨10, ⟨some 24, .read (.ldN 4 23), none⟩, 0⟩], some (mZ (.st 4 6 24))⟩, ⟨[], [], none⟩]) .ret))
def r300 : List ARes := [.c true 4 6]
theorem k300 (c299 : T 299) (c344 : T 344) : compFn Tryz.prog 300 = some ⟨25, (s300 c299 c344).er, r300⟩ := by kernel_rfl
abbrev q300 (O : Ops Tryz.prog) (c299 : T 299) (c344 : T 344) := curF 3 (sfn O (s300 c299 c344) r300)
def g300 : { g // g = q300 } := by
  have h : q300 = q300 := rfl
  conv at h => rhs; reduce
  exact ⟨_, h.symm⟩
def C300 : T 300 := mkRun 3 (k300 C299 C344) (by decide) (g300.1 (theOps Tryz.prog) C299 C344) (by rw [g300.2])
/- 301: (*rampart/rule.parser).sign -/
def s301 (c300 : T 300) : S := .reg [mM 4 0, mM 5 1, mQ 6 300 [4, .c 4, 5] c300]
def r301 : List ARes := []
theorem k301 (c300 : T 300) : compFn Tryz.prog 301 = some ⟨7, (s301 c300).er, r301⟩ := by kernel_rfl
abbrev q301 (O : Ops Tryz.prog) (c300 : T 300) := curF 2 (sfn O (s301 c300) r301)
def g301 : { g // g = q301 } := by
  have h : q301 = q301 := rfl
  conv at h => rhs; reduce
  exact ⟨_, h.symm⟩
def C301 : T 301 := mkRun 2 (k301 C300) (by decide) (g301.1 (theOps Tryz.prog) C300) (by rw [g301.2])
/- 152: rampart/rule.in -/
def s152 : S := .seq (.reg [mK 6 (.b false)]) (.seq (.reg [mM 7 0, mM 8 1, mB .geq 9 7 8, mM 10 9, (mM 11 0).g 10 true, (mM 12 2).g 10 true, (mB .leq 13 11 12).g 10 true, mU 14 (.pick 10 13 (.c (.b false))), mM 6 14]) .ret)
def r152 : List ARes := [.t 6]
theorem k152 : compFn Tryz.prog 152 = some ⟨15, (s152).er, r152⟩ := by kernel_rfl
abbrev q152 (O : Ops Tryz.prog) := curF 3 (sfn O (s152) r152)
def g152 : { g // g = q152 } := by
  have h : q152 = q152 := rfl
  conv at h => rhs; reduce
  exact ⟨_, h.symm⟩
def C152 : T 152 := mkRun 3 (k152) (by decide) (g152.1 (theOps Tryz.prog)) (by rw [g152.2])
/- 349: (*rampart/rule.parser).number -/
def s349 (c152 : T 152) (c300 : T 300) (c344 : T 344) : S := .seq (.reg [mK 6 0]) (.join [0, 1, 2, 7] [] (.reg [mM 8 0, mQ 9 300 [8, .c 2, .c (.s [])] c300, mU 10 (.field false 2 1 9), mM 7 10]) (.join [7] [] (.seq (.reg [mM 11 7, mM 12 1, mM 13 2, mQ 14 152 [11, 12, 13] c152, mU 15 (.un .not 14)]) (.cond 15 (.seq (.reg [mM 16 0, mU 17 (.nilCheck 16), mF 1 18 17, mL 19 18, mB .sub 20 19 (.c 1), mU 21 (.nilCheck 16), mF 1 22 21, mZ (.st 1 22 20)]) (.reg [mM 23 0, mQ 24 344 [23] c344])) .skip)) (.seq (.reg [mM 25 7, mM 6 25]) .ret)))
def r349 : List ARes := [.t 6]
theorem k349 (c152 : T 152) (c300 : T 300) (c344 : T 344) : compFn Tryz.prog 349 = some ⟨26, (s349 c152 c300 c344).er, r349⟩ := by kernel_rfl
abbrev q349 (O : Ops Tryz.prog) (c152 : T 152) (c300 : T 300) (c344 : T 344) := curF 3 (sfn O (s349 c152 c300 c344) r349)
def g349 : { g // g = q349 } := by
  have h : q349 = q349 := rfl
  conv at h => rhs; reduce
  exact ⟨_, h.symm⟩
def C349 : T 349 := mkRun 3 (k349 C152 C300 C344) (by decide) (g349.1 (theOps Tryz.prog) C152 C300 C344) (by rw [g349.2])
/- 347: (*rampart/rule.parser).net -/
def s347 (c299 : T 299) (c301 : T 301) (c349 : T 349) : S := .seq (.reg [mN 2 (.newz [.i .u32 0, 0])]) (.join [0, 2, 3] [] (.reg [mM 5 0, mQ 6 349 [5, .c 0, .c 255] c349, mU 7 (.conv .u32 6), mM 3 7]) (.seq (.seq (.reg [mK 8 0]) (.block 0 (.loop [3, 8] [0, 2] (.seq (.reg [mB .lss 9 8 (.c 3)]) (.seq (.cond 9 .skip (.exit 0)) (.seq (.block 1 (.seq (.reg [mM 10 0, mQ 11 301 [10, .c (.s [46])] c301]) (.reg [mM 12 3, mB .shl 13 12 (.c (.i .u64 8)), mM 14 0, mQ 15 349 [14, .c 0, .c 255] c349, mU 16 (.conv .u32 15), mB .or 17 13 16, mM 3 17]))) (.reg [mB .add 18 8 (.c 1), mM 8 18]))))))) (.seq (.reg [mM 19 3, mU 20 (.build [.i .u32 0, 0] [(0, (1, 19)), (1, (1, .c 32))]), mN 4 (.newz [.i .u32 0, 0]), mZ (.st 2 4 20)]) (.join [2, 4] [] (.seq (.reg [mM 21 0, mQ 22 299 [21, .c 4, .c (.s [47])] c299]) (.cond 22 (.reg [mM 23 0, mQ 24 349 [23, .c 0, .c 32] c349, mF 1 25 4, mZ (.st 1 25 24)]) .skip)) (.seq (.reg [mR 26 (.ldN 2 4), mZ (.st 2 2 26)]) .ret)))))
def r347 : List ARes := [.c true 2 2]
theorem k347 (c299 : T 299) (c301 : T 301) (c349 : T 349) : compFn Tryz.prog 347 = some ⟨27, (s347 c299 c301 c349).er, r347⟩ := by kernel_rfl
abbrev q347 (O : Ops Tryz.prog) (c299 : T 299) (c301 : T 301) (c349 : T 349) := curF 1 (sfn O (s347 c299 c301 c349) r347)
def g347 : { g // g = q347 } := by
  have h : q347 = q347 := rfl
  conv at h => rhs; reduce
  exact ⟨_, h.symm⟩
def C347 : T 347 := mkRun 1 (k347 C299 C301 C349) (by decide) (g347.1 (theOps Tryz.prog) C299 C301 C349) (by rw [g347.2])
/- 346: (*rampart/rule.parser).addresses$1 -/
def s346 (c347 : T 347) : S := .draw 8 [⟨[], [⟨0, ⟨some 2, .pure (.fieldAddr 1 0), none⟩, 1⟩, ⟨1, ⟨some 3, .read (.ld1 2), none⟩, 1⟩, ⟨2, ⟨some 4, .read (.ld1 1), none⟩, 0⟩], some (mQ 5 347 [4] c347)⟩, ⟨[⟨some 3, .read (.ld1 2), none⟩], [⟨4, ⟨some 6, .alloc (.bslice 2 1 [.i .u32 0, 0] [(0, (2, 5))]), none⟩, 1⟩], some (mY 7 (.append 2 16 3 6))⟩, ⟨[], [⟨6, ⟨some 8, .pure (.fieldAddr 1 0), none⟩, 2⟩], some (mZ (.st 1 8 7))⟩, ⟨[], [], none⟩]
def r346 : List ARes := []
theorem k346 (c347 : T 347) : compFn Tryz.prog 346 = some ⟨9, (s346 c347).er, r346⟩ := by kernel_rfl
abbrev q346 (O : Ops Tryz.prog) (c347 : T 347) := curF 2 (sfn O (s346 c347) r346)
def g346 : { g // g = q346 } := by
  have h : q346 = q346 := rfl
  conv at h => rhs; reduce
  exact ⟨_, h.symm⟩
def C346 : T 346 := mkRun 2 (k346 C347) (by decide) (g346.1 (theOps Tryz.prog) C347) (by rw [g346.2])
def A346 : U := ⟨346, C346⟩
/- 348: (*rampart/rule.parser).ports$1 -/
def s348 (c299 : T 299) (c349 : T 349) : S := .join [0, 1, 2] [] (.reg [mL 4 0, mQ 5 349 [4, .c 0, .c 65535] c349, mM 2 5]) (.seq (.reg [mM 6 2, mM 3 6]) (.join [1, 2, 3] [] (.seq (.reg [mL 7 0, mQ 8 299 [7, .c 4, .c (.s [45])] c299]) (.cond 8 (.reg [mL 9 0, mM 10 2, mQ 11 349 [9, 10, .c 65535] c349, mM 3 11]) .skip)) (.reg [mF 1 12 1, mL 13 12, mM 14 2, mM 15 3, mU 16 (.build [0, 0] [(0, (1, 14)), (1, (1, 15))]), mN 17 (.bslice 2 1 [0, 0] [(0, (2, 16))]), mY 18 (.append 2 16 13 17), mF 1 19 1, mZ (.st 1 19 18)])))
def r348 : List ARes := []
theorem k348 (c299 : T 299) (c349 : T 349) : compFn Tryz.prog 348 = some ⟨20, (s348 c299 c349).er, r348⟩ := by kernel_rfl
abbrev q348 (O : Ops Tryz.prog) (c299 : T 299) (c349 : T 349) := curF 2 (sfn O (s348 c299 c349) r348)
def g348 : { g // g = q348 } := by
  have h : q348 = q348 := rfl
  conv at h => rhs; reduce
  exact ⟨_, h.symm⟩
def C348 : T 348 := mkRun 2 (k348 C299 C349) (by decide) (g348.1 (theOps Tryz.prog) C299 C349) (by rw [g348.2])
def A348 : U := ⟨348, C348⟩
/- 345: (*rampart/rule.parser).several -/
def s345 (c299 : T 299) (c301 : T 301) (a346 : U) (a348 : U) : S := .join [0, 1, 2] [] (.seq (.reg [mM 7 0, mQ 8 299 [7, .c 4, .c (.s [91])] c299, mU 9 (.un .not 8)]) (.cond 9 (.seq (.reg [mM 10 2, mV 11 10 [] [a346, a348] []]) .ret) .skip)) (.seq (.reg [mK 6 1]) (.seq (.seq (.reg [mM 12 2, mV 13 12 [] [a346, a348] []]) (.block 0 (.loop [6] [0, 1, 2] (.seq (.seq (.reg [mM 14 0, mQ 15 299 [14, .c 4, .c (.s [44])] c299]) (.cond 15 .skip (.exit 0))) (.seq (.block 1 (.reg [mM 18 2, mV 19 18 [] [a346, a348] []])) (.reg [mM 16 6, mB .add 17 16 (.c 1), mM 6 17])))))) (.seq (.reg [mM 20 0, mQ 21 301 [20, .c (.s [93])] c301]) (.reg [mM 22 0, mM 23 0, mU 24 (.nilCheck 23), mF 4 25 24, mL 26 25, mM 27 26, (mM 28 6).g 27 false, (mM 29 1).g 27 false, (mB .gtr 30 28 29).g 27 false, mU 31 (.pick 27 (.c (.b true)) 30), mU 32 (.nilCheck 22), mF 4 33 32, mZ (.st 1 33 31)]))))
def r345 : List ARes := []
theorem k345 (c299 : T 299) (c301 : T 301) (a346 : U) (a348 : U) : compFn Tryz.prog 345 = some ⟨34, (s345 c299 c301 a346 a348).er, r345⟩ := by kernel_rfl
abbrev q345 (O : Ops Tryz.prog) (c299 : T 299) (c301 : T 301) (a346 : U) (a348 : U) := curF 3 (sfn O (s345 c299 c301 a346 a348) r345)
def g345 : { g // g = q345 } := by
  have h : q345 = q345 := rfl
  conv at h => rhs; reduce
  exact ⟨_, h.symm⟩
def C345 : T 345 := mkRun 3 (k345 C299 C301 A346 A348) (by decide) (g345.1 (theOps Tryz.prog) C299 C301 A346 A348) (by rw [g345.2])
/- 302: (*rampart/rule.parser).addresses -/
def s302 (c299 : T 299) (c343 : T 343) (c344 : T 344) (c345 : T 345) : S := .join [1, 2] [] (.reg [mN 1 (.box 0), mN 2 (.newz [.b false, .sl 0 none 0 0])]) (.join [1, 2, 3] [] (.reg [mL 6 1, mQ 7 299 [6, .c 4, .c (.s [33])] c299, mU 8 (.build [.b false, .sl 0 none 0 0] [(0, (1, 7))]), mN 3 (.newz [.b false, .sl 0 none 0 0]), mZ (.st 2 3 8)]) (.join [2, 3] [] (.block 0 (.join [1, 2, 3, 12] [] (.reg [mL 13 1, mQ 14 299 [13, .c 1, .c (.s [97, 110, 121])] c299, mM 12 14]) (.cond 12 .skip (.join [1, 2, 3, 15] [] (.reg [mL 16 1, mQ 17 343 [16, .c 5, .c (.s [])] c343, mM 15 17]) (.cond 15 (.join [1, 2, 3, 4, 5] [] (.draw 22 [⟨[], [⟨0, ⟨some 19, .read (.ld1 1), none⟩, 0⟩, ⟨1, ⟨some 20, .pure (.nilCheck 19), none⟩, 0⟩, ⟨2, ⟨some 21, .pure (.fieldAddr 2 20), none⟩, 0⟩, ⟨3, ⟨some 22, .read (.ld1 21), none⟩, 0⟩, ⟨4, ⟨some 23, .read (.ld1 1), none⟩, 0⟩, ⟨5, ⟨some 24, .pure (.nilCheck 23), none⟩, 0⟩, ⟨6, ⟨some 25, .pure (.fieldAddr 0 24), none⟩, 0⟩, ⟨7, ⟨some 26, .read (.ld1 25), none⟩, 0⟩, ⟨8, ⟨some 27, .read (.ld1 1), none⟩, 0⟩, ⟨9, ⟨some 28, .pure (.nilCheck 27), none⟩, 0⟩, ⟨10, ⟨some 29, .pure (.fieldAddr 1 28), none⟩, 0⟩, ⟨11, ⟨some 30, .read (.ld1 29), none⟩, 0⟩, ⟨12, ⟨some 31, .pure (.idxAddrSl 4 26 30), none⟩, 0⟩, ⟨13, ⟨some 32, .pure (.fieldAddr 1 31), none⟩, 0⟩, ⟨14, ⟨some 33, .read (.ld1 32), none⟩, 0⟩, ⟨15, ⟨some 34, .read (.lookup (.one .s) (.agg [.b false, .sl 0 none 0 0]) true 22 33), none⟩, 0⟩, ⟨16, ⟨some 18, .pure (.mv 34), none⟩, 0⟩, ⟨17, ⟨some 35, .pure (.extract 0 18), none⟩, 0⟩, ⟨18, ⟨some 36, .pure (.extract 1 18), none⟩, 1⟩, ⟨19, ⟨some 4, .alloc (.newz [.b false, .sl 0 none 0 0]), none⟩, 0⟩], some (mZ (.st 2 4 35))⟩, ⟨[], [⟨21, ⟨some 5, .pure (.mv 36), none⟩, 1⟩], none⟩]) (.join [1, 2, 3, 4] [] (.seq (.reg [mM 37 5, mU 38 (.un .not 37)]) (.cond 38 (.reg [mL 39 1, mQ 40 344 [39] c344]) .skip)) (.seq (.reg [mL 41 1, mU 42 (.nilCheck 41), mF 1 43 42, mL 44 43, mB .add 45 44 (.c 1), mU 46 (.nilCheck 41), mF 1 47 46, mZ (.st 1 47 45)]) (.seq (.reg [mF 0 48 4, mL 49 48, mF 0 50 3, mL 51 50, mU 52 (.eqB true 49 51), mF 1 53 4, mL 54 53, mU 55 (.build [.b false, .sl 0 none 0 0] [(0, (1, 52)), (1, (1, 54))]), mZ (.st 2 2 55)]) .ret)))) (.reg [mL 9 1, mU 10 (.mkFunc 346 [] [3, 1]), mQ 11 345 [9, .c 4, 10] c345])))))) (.seq (.reg [mR 56 (.ldN 2 3), mZ (.st 2 2 56)]) .ret)))
def r302 : List ARes := [.c true 2 2]
theorem k302 (c299 : T 299) (c343 : T 343) (c344 : T 344) (c345 : T 345) : compFn Tryz.prog 302 = some ⟨57, (s302 c299 c343 c344 c345).er, r302⟩ := by kernel_rfl
abbrev q302 (O : Ops Tryz.prog) (c299 : T 299) (c343 : T 343) (c344 : T 344) (c345 : T 345) := curF 1 (sfn O (s302 c299 c343 c344 c345) r302)
def g302 : { g // g = q302 } := by
  have h : q302 = q302 := rfl
  conv at h => rhs; reduce
  exact ⟨_, h.symm⟩
def C302 : T 302 := mkRun 1 (k302 C299 C343 C344 C345) (by decide) (g302.1 (theOps Tryz.prog) C299 C343 C344 C345) (by rw [g302.2])
/- 303: (*rampart/rule.parser).one -/
def s303 (c299 : T 299) (c344 : T 344) : S := .seq (.reg [mK 4 0]) (.seq (.seq (.reg [mM 7 1, mU 8 (.lenSl 7), mK 9 0]) (.block 0 (.loop [9] [0, 7, 8] (.seq (.reg [mB .lss 10 9 8]) (.seq (.cond 10 .skip (.exit 0)) (.seq (.block 1 (.seq (.reg [mM 11 9, mU 12 (.idxAddrSl 1 7 9), mL 13 12, mM 5 11, mM 6 13]) (.seq (.reg [mM 14 0, mM 15 6, mQ 16 299 [14, .c 1, 15] c299]) (.cond 16 (.seq (.reg [mM 17 5, mB .add 18 17 (.c 1), mM 4 18]) .ret) .skip)))) (.reg [mB .add 19 9 (.c 1), mM 9 19]))))))) (.seq (.reg [mM 20 0, mQ 21 344 [20] c344]) (.seq (.reg [mK 4 0]) .ret)))
def r303 : List ARes := [.t 4]
theorem k303 (c299 : T 299) (c344 : T 344) : compFn Tryz.prog 303 = some ⟨22, (s303 c299 c344).er, r303⟩ := by kernel_rfl
abbrev q303 (O : Ops Tryz.prog) (c299 : T 299) (c344 : T 344) := curF 2 (sfn O (s303 c299 c344) r303)
def g303 : { g // g = q303 } := by
  have h : q303 = q303 := rfl
  conv at h => rhs; reduce
  exact ⟨_, h.symm⟩
def C303 : T 303 := mkRun 2 (k303 C299 C344) (by decide) (g303.1 (theOps Tryz.prog) C299 C344) (by rw [g303.2])
/- 304: (*rampart/rule.parser).ports -/
def s304 (c299 : T 299) (c345 : T 345) : S := .join [1, 2] [] (.reg [mN 1 (.box 0), mN 2 (.newz [.b false, .sl 0 none 0 0])]) (.seq (.reg [mL 4 1, mQ 5 299 [4, .c 4, .c (.s [33])] c299, mU 6 (.build [.b false, .sl 0 none 0 0] [(0, (1, 5))]), mN 3 (.newz [.b false, .sl 0 none 0 0]), mZ (.st 2 3 6)]) (.seq (.seq (.reg [mL 7 1, mQ 8 299 [7, .c 1, .c (.s [97, 110, 121])] c299]) (.cond 8 (.seq (.reg [mR 9 (.ldN 2 3), mZ (.st 2 2 9)]) .ret) .skip)) (.seq (.reg [mL 10 1, mU 11 (.mkFunc 348 [] [1, 3]), mQ 12 345 [10, .c 4, 11] c345]) (.seq (.reg [mR 13 (.ldN 2 3), mZ (.st 2 2 13)]) .ret))))
def r304 : List ARes := [.c true 2 2]
theorem k304 (c299 : T 299) (c345 : T 345) : compFn Tryz.prog 304 = some ⟨14, (s304 c299 c345).er, r304⟩ := by kernel_rfl
abbrev q304 (O : Ops Tryz.prog) (c299 : T 299) (c345 : T 345) := curF 1 (sfn O (s304 c299 c345) r304)
def g304 : { g // g = q304 } := by
  have h : q304 = q304 := rfl
  conv at h => rhs; reduce
  exact ⟨_, h.symm⟩
def C304 : T 304 := mkRun 1 (k304 C299 C345) (by decide) (g304.1 (theOps Tryz.prog) C299 C345) (by rw [g304.2])
/- 350: (*rampart/rule.parser).once -/
def s350 (c344 : T 344) : S := .join [0, 1, 2] [] (.seq (.reg [mM 6 1, mU 7 (.isNil 1 false 6 (.c (.m none))), mM 8 7, (mM 9 1).g 8 false, (mM 10 2).g 8 false, (mR 11 (.lookup (.one .s) (.b false) false 9 10)).g 8 false, mU 12 (.pick 8 (.c (.b true)) 11)]) (.cond 12 (.reg [mM 13 0, mQ 14 344 [13] c344]) .skip)) (.seq (.reg [mM 15 1, mM 16 2, mZ (.mapUpd (.one .s) 15 16 (.c (.b true)))]) (.reg [mM 17 0, mU 18 (.nilCheck 17), mF 1 19 18, mL 20 19, mB .add 21 20 (.c 1), mU 22 (.nilCheck 17), mF 1 23 22, mZ (.st 1 23 21)]))
def r350 : List ARes := []
theorem k350 (c344 : T 344) : compFn Tryz.prog 350 = some ⟨24, (s350 c344).er, r350⟩ := by kernel_rfl
abbrev q350 (O : Ops Tryz.prog) (c344 : T 344) := curF 3 (sfn O (s350 c344) r350)
def g350 : { g // g = q350 } := by
  have h : q350 = q350 := rfl
  conv at h => rhs; reduce
  exact ⟨_, h.symm⟩
def C350 : T 350 := mkRun 3 (k350 C344) (by decide) (g350.1 (theOps Tryz.prog) C344) (by rw [g350.2])
/- 351: (*rampart/rule.parser).value -/
def s351 (c301 : T 301) (c349 : T 349) : S := .seq (.reg [mK 6 0]) (.seq (.reg [mM 7 0, mQ 8 301 [7, .c (.s [58])] c301]) (.seq (.reg [mM 9 0, mM 10 1, mM 11 2, mQ 12 349 [9, 10, 11] c349, mM 6 12]) .ret))
def r351 : List ARes := [.t 6]
theorem k351 (c301 : T 301) (c349 : T 349) : compFn Tryz.prog 351 = some ⟨13, (s351 c301 c349).er, r351⟩ := by kernel_rfl
abbrev q351 (O : Ops Tryz.prog) (c301 : T 301) (c349 : T 349) := curF 3 (sfn O (s351 c301 c349) r351)
def g351 : { g // g = q351 } := by
  have h : q351 = q351 := rfl
  conv at h => rhs; reduce
  exact ⟨_, h.symm⟩
def C351 : T 351 := mkRun 3 (k351 C301 C349) (by decide) (g351.1 (theOps Tryz.prog) C301 C349) (by rw [g351.2])
/- 352: (*rampart/rule.parser).modifier -/
def s352 (c299 : T 299) (c301 : T 301) (c349 : T 349) (c350 : T 350) (c351 : T 351) : S := .seq (.reg [mK 8 (.b false)]) (.join [] [] (.seq (.reg [mM 10 1]) (.block 0 (.seq (.reg [mB .eql 12 10 (.c (.s [110, 111, 99, 97, 115, 101])), mM 11 12]) (.cond 11 (.seq (.reg [mM 13 0, mM 14 2, mM 15 1, mQ 16 350 [13, 14, 15] c350]) (.reg [mM 17 3, mU 18 (.nilCheck 17), mF 1 19 18, mZ (.st 1 19 (.c (.b true)))])) (.seq (.reg [mB .eql 21 10 (.c (.s [111, 102, 102, 115, 101, 116])), mM 20 21]) (.cond 20 (.seq (.reg [mM 22 0, mM 23 2, mM 24 1, mQ 25 350 [22, 23, 24] c350]) (.reg [mM 26 3, mM 27 0, mQ 28 351 [27, .c 0, .c 65535] c351, mU 29 (.nilCheck 26), mF 3 30 29, mZ (.st 1 30 28)])) (.seq (.reg [mB .eql 32 10 (.c (.s [100, 101, 112, 116, 104])), mM 31 32]) (.cond 31 (.seq (.reg [mM 33 0, mM 34 2, mM 35 1, mQ 36 350 [33, 34, 35] c350]) (.reg [mM 37 3, mM 38 0, mQ 39 351 [38, .c 0, .c 65535] c351, mU 40 (.nilCheck 37), mF 4 41 40, mZ (.st 1 41 39)])) (.seq (.reg [mB .eql 43 10 (.c (.s [119, 105, 116, 104, 105, 110])), mM 42 43]) (.cond 42 (.seq (.reg [mM 44 0, mM 45 2, mM 46 1, mQ 47 350 [44, 45, 46] c350]) (.reg [mM 48 3, mM 49 3, mM 50 0, mQ 51 351 [50, .c 0, .c 65535] c351, mU 52 (.nilCheck 48), mF 7 53 52, mZ (.st 1 53 51), mU 54 (.nilCheck 49), mF 5 55 54, mZ (.st 1 55 (.c (.b true)))])) (.seq (.reg [mB .eql 57 10 (.c (.s [100, 105, 115, 116, 97, 110, 99, 101])), mM 56 57]) (.cond 56 (.seq (.reg [mM 58 0, mM 59 2, mM 60 1, mQ 61 350 [58, 59, 60] c350]) (.seq (.reg [mM 62 0, mQ 63 301 [62, .c (.s [58])] c301]) (.seq (.reg [mK 9 1]) (.join [0, 3, 9] [] (.seq (.reg [mM 64 0, mQ 65 299 [64, .c 4, .c (.s [45])] c299]) (.cond 65 (.reg [mK 9 (.i .i64 (-1))]) .skip)) (.reg [mM 66 3, mM 67 3, mM 68 9, mM 69 0, mQ 70 349 [69, .c 0, .c 65535] c349, mB .mul 71 68 70, mU 72 (.nilCheck 66), mF 6 73 72, mZ (.st 1 73 71), mU 74 (.nilCheck 67), mF 5 75 74, mZ (.st 1 75 (.c (.b true)))]))))) (.seq (.reg [mK 8 (.b false)]) .ret))))))))))))) (.seq (.reg [mK 8 (.b true)]) .ret))
def r352 : List ARes := [.t 8]
theorem k352 (c299 : T 299) (c301 : T 301) (c349 : T 349) (c350 : T 350) (c351 : T 351) : compFn Tryz.prog 352 = some ⟨76, (s352 c299 c301 c349 c350 c351).er, r352⟩ := by kernel_rfl
abbrev q352 (O : Ops Tryz.prog) (c299 : T 299) (c301 : T 301) (c349 : T 349) (c350 : T 350) (c351 : T 351) := curF 4 (sfn O (s352 c299 c301 c349 c350 c351) r352)
def g352 : { g // g = q352 } := by
  have h : q352 = q352 := rfl
  conv at h => rhs; reduce
  exact ⟨_, h.symm⟩
def C352 : T 352 := mkRun 4 (k352 C299 C301 C349 C350 C351) (by decide) (g352.1 (theOps Tryz.prog) C299 C301 C349 C350 C351) (by rw [g352.2])
/- 305: (*rampart/rule.parser).options -/
def s305 (c299 : T 299) (c301 : T 301) (c303 : T 303) (c343 : T 343) (c344 : T 344) (c350 : T 350) (c351 : T 351) (c352 : T 352) : S := .seq (.reg [mN 10 .mkmap, mM 4 10]) (.seq (.reg [mK 5 (.m none)]) (.seq (.reg [mN 6 (.newz [.s [], .b false, .b false, 0, 0, .b false, 0, 0])]) (.block 0 (.loop [5] [0, 1, 4, 6] (.join [0, 1, 4, 5, 6] [] (.seq (.reg [mM 11 0, mQ 12 299 [11, .c 4, .c (.s [41])] c299, mU 13 (.un .not 12)]) (.cond 13 .skip (.exit 0))) (.block 1 (.join [0, 1, 4, 5, 6] [] (.seq (.reg [mM 14 0, mQ 15 343 [14, .c 1, .c (.s [])] c343, mU 16 (.un .not 15)]) (.cond 16 (.reg [mM 17 0, mQ 18 344 [17] c344]) .skip)) (.join [0, 1, 4, 5, 6, 7] [] (.draw 0 [⟨[], [⟨0, ⟨some 19, .pure (.mv 0), none⟩, 0⟩, ⟨1, ⟨some 20, .pure (.nilCheck 19), none⟩, 0⟩, ⟨2, ⟨some 21, .pure (.fieldAddr 0 20), none⟩, 0⟩, ⟨3, ⟨some 22, .read (.ld1 21), none⟩, 0⟩, ⟨4, ⟨some 23, .pure (.mv 0), none⟩, 0⟩, ⟨5, ⟨some 24, .pure (.nilCheck 23), none⟩, 0⟩, ⟨6, ⟨some 25, .pure (.fieldAddr 1 24), none⟩, 0⟩, ⟨7, ⟨some 26, .read (.ld1 25), none⟩, 0⟩, ⟨8, ⟨some 27, .pure (.idxAddrSl 4 22 26), none⟩, 0⟩, ⟨9, ⟨some 28, .pure (.fieldAddr 1 27), none⟩, 0⟩, ⟨10, ⟨some 29, .read (.ld1 28), none⟩, 0⟩, ⟨11, ⟨some 7, .pure (.mv 29), none⟩, 0⟩], none⟩]) (.join [0, 1, 4, 5, 6, 7] [] (.seq (.reg [mM 30 1, mU 31 (.nilCheck 30), mF 12 32 31, mL 33 32, mU 34 (.lenSl 33), mM 8 34]) (.seq (.reg [mM 35 8, mB .gtr 36 35 (.c 0)]) (.cond 36 (.reg [mM 37 1, mU 38 (.nilCheck 37), mF 12 39 38, mL 40 39, mM 41 8, mB .sub 42 41 (.c 1), mU 43 (.idxAddrSl 8 40 42), mR 44 (.ldN 8 43), mZ (.st 8 6 44)]) .skip))) (.join [0, 1, 4, 5, 6] [] (.block 2 (.seq (.reg [mM 48 7, mB .eql 49 48 (.c (.s [99, 111, 110, 116, 101, 110, 116])), mM 47 49]) (.cond 47 (.join [0, 1, 4, 6] [] (.reg [mM 50 0, mU 51 (.nilCheck 50), mF 1 52 51, mL 53 52, mB .add 54 53 (.c 1), mU 55 (.nilCheck 50), mF 1 56 55, mZ (.st 1 56 54)]) (.seq (.reg [mM 57 0, mQ 58 301 [57, .c (.s [58])] c301]) (.join [0, 1, 4, 6, 9] [] (.reg [mM 59 0, mQ 60 299 [59, .c 4, .c (.s [33])] c299, mU 61 (.build [.s [], .b false, .b false, 0, 0, .b false, 0, 0] [(2, (1, 60))]), mN 9 (.newz [.s [], .b false, .b false, 0, 0, .b false, 0, 0]), mZ (.st 8 9 61)]) (.join [0, 1, 4, 6, 9] [] (.seq (.reg [mM 62 0, mQ 63 343 [62, .c 3, .c (.s [])] c343, mU 64 (.un .not 63)]) (.cond 64 (.reg [mM 65 0, mQ 66 344 [65] c344]) .skip)) (.join [0, 1, 4, 6, 9] [] (.draw 0 [⟨[], [⟨0, ⟨some 67, .pure (.mv 0), none⟩, 0⟩, ⟨1, ⟨some 68, .pure (.nilCheck 67), none⟩, 0⟩, ⟨2, ⟨some 69, .pure (.fieldAddr 0 68), none⟩, 0⟩, ⟨3, ⟨some 70, .read (.ld1 69), none⟩, 0⟩, ⟨4, ⟨some 71, .pure (.mv 0), none⟩, 0⟩, ⟨5, ⟨some 72, .pure (.nilCheck 71), none⟩, 0⟩, ⟨6, ⟨some 73, .pure (.fieldAddr 1 72), none⟩, 0⟩, ⟨7, ⟨some 74, .read (.ld1 73), none⟩, 0⟩, ⟨8, ⟨some 75, .pure (.idxAddrSl 4 70 74), none⟩, 0⟩, ⟨9, ⟨some 76, .pure (.fieldAddr 1 75), none⟩, 0⟩, ⟨10, ⟨some 77, .read (.ld1 76), none⟩, 0⟩, ⟨11, ⟨some 78, .pure (.fieldAddr 0 9), none⟩, 0⟩], some (mZ (.st 1 78 77))⟩, ⟨[], [], none⟩]) (.join [0, 1, 4, 6, 9] [] (.reg [mM 79 0, mU 80 (.nilCheck 79), mF 1 81 80, mL 82 81, mB .add 83 82 (.c 1), mU 84 (.nilCheck 79), mF 1 85 84, mZ (.st 1 85 83)]) (.draw 13 [⟨[], [⟨0, ⟨some 86, .pure (.mv 1), none⟩, 1⟩, ⟨1, ⟨some 87, .pure (.mv 1), none⟩, 0⟩, ⟨2, ⟨some 88, .pure (.nilCheck 87), none⟩, 0⟩, ⟨3, ⟨some 89, .pure (.fieldAddr 12 88), none⟩, 0⟩, ⟨4, ⟨some 90, .read (.ld1 89), none⟩, 0⟩, ⟨5, ⟨some 91, .read (.ldN 8 9), none⟩, 0⟩, ⟨6, ⟨some 92, .alloc (.bslice 8 1 [.s [], .b false, .b false, 0, 0, .b false, 0, 0] [(0, (8, 91))]), none⟩, 0⟩, ⟨8, ⟨some 94, .alloc .mkmap, none⟩, 2⟩], some (mY 93 (.append 8 64 90 92))⟩, ⟨[], [⟨9, ⟨some 95, .pure (.nilCheck 86), none⟩, 1⟩, ⟨10, ⟨some 96, .pure (.fieldAddr 12 95), none⟩, 1⟩], some (mZ (.st 1 96 93))⟩, ⟨[], [⟨12, ⟨some 5, .pure (.mv 94), none⟩, 2⟩], none⟩]))))))) (.seq (.reg [mM 98 7, mB .eql 99 98 (.c (.s [102, 108, 111, 119])), mM 97 99]) (.cond 97 (.seq (.reg [mM 100 0, mM 101 4, mM 102 7, mQ 103 350 [100, 101, 102] c350]) (.seq (.reg [mM 104 0, mQ 105 301 [104, .c (.s [58])] c301]) (.reg [mM 106 1, mM 107 0, mN 108 (.bslice 1 2 [.s [], .s []] [(0, (1, .c (.s [115, 101, 114, 118, 101, 114]))), (1, (1, .c (.s [99, 108, 105, 101, 110, 116])))]), mQ 109 303 [107, 108] c303, mU 110 (.nilCheck 106), mF 11 111 110, mZ (.st 1 111 109)]))) (.seq (.reg [mM 113 7, mB .eql 114 113 (.c (.s [115, 105, 100])), mM 112 114]) (.cond 112 (.seq (.reg [mM 115 0, mM 116 4, mM 117 7, mQ 118 350 [115, 116, 117] c350]) (.reg [mM 119 1, mM 120 0, mQ 121 351 [120, .c 0, .c 999999999] c351, mU 122 (.nilCheck 119), mF 13 123 122, mZ (.st 1 123 121)])) (.seq (.reg [mM 125 7, mB .eql 126 125 (.c (.s [114, 101, 118])), mM 124 126]) (.cond 124 (.seq (.reg [mM 127 0, mM 128 4, mM 129 7, mQ 130 350 [127, 128, 129] c350]) (.reg [mM 131 1, mM 132 0, mQ 133 351 [132, .c 0, .c 999999999] c351, mU 134 (.nilCheck 131), mF 14 135 134, mZ (.st 1 135 133)])) (.seq (.reg [mM 137 0, mM 138 7, mM 139 5, mQ 140 352 [137, 138, 139, 6] c352, mM 136 140]) (.cond 136 (.draw 0 [⟨[], [⟨0, ⟨some 141, .pure (.mv 1), none⟩, 0⟩, ⟨1, ⟨some 142, .pure (.nilCheck 141), none⟩, 0⟩, ⟨2, ⟨some 143, .pure (.fieldAddr 12 142), none⟩, 0⟩, ⟨3, ⟨some 144, .read (.ld1 143), none⟩, 0⟩, ⟨4, ⟨some 145, .pure (.mv 1), none⟩, 0⟩, ⟨5, ⟨some 146, .pure (.nilCheck 145), none⟩, 0⟩, ⟨6, ⟨some 147, .pure (.fieldAddr 12 146), none⟩, 0⟩, ⟨7, ⟨some 148, .read (.ld1 147), none⟩, 0⟩, ⟨8, ⟨some 149, .pure (.lenSl 148), none⟩, 0⟩, ⟨9, ⟨some 150, .pure (.bin .sub 149 (.c 1)), none⟩, 0⟩, ⟨10, ⟨some 151, .read (.ldN 8 6), none⟩, 0⟩, ⟨11, ⟨some 152, .pure (.idxAddrSl 8 144 150), none⟩, 0⟩], some (mZ (.st 8 152 151))⟩, ⟨[], [], none⟩]) (.reg [mM 45 0, mQ 46 344 [45] c344])))))))))))) (.reg [mM 153 0, mQ 154 301 [153, .c (.s [59])] c301])))))))))))
def r305 : List ARes := []
theorem k305 (c299 : T 299) (c301 : T 301) (c303 : T 303) (c343 : T 343) (c344 : T 344) (c350 : T 350) (c351 : T 351) (c352 : T 352) : compFn Tryz.prog 305 = some ⟨155, (s305 c299 c301 c303 c343 c344 c350 c351 c352).er, r305⟩ := by kernel_rfl
abbrev q305 (O : Ops Tryz.prog) (c299 : T 299) (c301 : T 301) (c303 : T 303) (c343 : T 343) (c344 : T 344) (c350 : T 350) (c351 : T 351) (c352 : T 352) := curF 2 (sfn O (s305 c299 c301 c303 c343 c344 c350 c351 c352) r305)
def g305 : { g // g = q305 } := by
  have h : q305 = q305 := rfl
  conv at h => rhs; reduce
  exact ⟨_, h.symm⟩
def C305 : T 305 := mkRun 2 (k305 C299 C301 C303 C343 C344 C350 C351 C352) (by decide) (g305.1 (theOps Tryz.prog) C299 C301 C303 C343 C344 C350 C351 C352) (by rw [g305.2])
/- 153: rampart/cidr.Check -/
def s153 : S := .seq (.reg [mN 1 (.box 0), mK 2 (.b false)]) (.join [1, 3] [] (.reg [mF 1 6 1, mL 7 6, mU 8 (.lenSl 7), mB .leq 9 8 (.c 4), mM 3 9]) (.seq (.join [3, 11, 12, 13] [] (.reg [mF 1 10 1, mL 11 10, mU 12 (.lenSl 11), mK 13 0]) (.block 0 (.loop [3, 13] [11, 12] (.seq (.reg [mB .lss 14 13 12]) (.seq (.cond 14 .skip (.exit 0)) (.seq (.block 1 (.seq (.reg [mU 15 (.idxAddrSl 2 11 13), mR 16 (.ldN 2 15), mN 5 (.newz [.i .u32 0, 0]), mZ (.st 2 5 16)]) (.reg [mM 17 3, mM 18 17, (mF 1 19 5).g 18 true, (mL 20 19).g 18 true, (mB .geq 21 20 (.c 0)).g 18 true, mU 22 (.pick 18 21 (.c (.b false))), mM 23 22, (mF 1 24 5).g 23 true, (mL 25 24).g 23 true, (mB .leq 26 25 (.c 32)).g 23 true, mU 27 (.pick 23 26 (.c (.b false))), mM 3 27]))) (.reg [mB .add 28 13 (.c 1), mM 13 28]))))))) (.seq (.reg [mM 29 3, mM 2 29]) .ret)))
def r153 : List ARes := [.t 2]
theorem k153 : compFn Tryz.prog 153 = some ⟨30, (s153).er, r153⟩ := by kernel_rfl
abbrev q153 (O : Ops Tryz.prog) := curF 1 (sfn O (s153) r153)
def g153 : { g // g = q153 } := by
  have h : q153 = q153 := rfl
  conv at h => rhs; reduce
  exact ⟨_, h.symm⟩
def C153 : T 153 := mkRun 1 (k153) (by decide) (g153.1 (theOps Tryz.prog)) (by rw [g153.2])
/- 354: rampart/cidr.masks -/
def s354 : S := .seq (.reg [mN 0 (.newz [.i .u32 0, .i .u32 0, .i .u32 0, .i .u32 0, .i .u32 0, .i .u32 0, .i .u32 0, .i .u32 0, .i .u32 0, .i .u32 0, .i .u32 0, .i .u32 0, .i .u32 0, .i .u32 0, .i .u32 0, .i .u32 0, .i .u32 0, .i .u32 0, .i .u32 0, .i .u32 0, .i .u32 0, .i .u32 0, .i .u32 0, .i .u32 0, .i .u32 0, .i .u32 0, .i .u32 0, .i .u32 0, .i .u32 0, .i .u32 0, .i .u32 0, .i .u32 0, .i .u32 0])]) (.seq (.reg [mN 1 (.newz [.i .u32 0, .i .u32 0, .i .u32 0, .i .u32 0, .i .u32 0, .i .u32 0, .i .u32 0, .i .u32 0, .i .u32 0, .i .u32 0, .i .u32 0, .i .u32 0, .i .u32 0, .i .u32 0, .i .u32 0, .i .u32 0, .i .u32 0, .i .u32 0, .i .u32 0, .i .u32 0, .i .u32 0, .i .u32 0, .i .u32 0, .i .u32 0, .i .u32 0, .i .u32 0, .i .u32 0, .i .u32 0, .i .u32 0, .i .u32 0, .i .u32 0, .i .u32 0, .i .u32 0])]) (.seq (.seq (.reg [mK 3 0]) (.block 0 (.loop [3] [0, 1] (.seq (.reg [mB .lss 4 3 (.c 33)]) (.seq (.cond 4 .skip (.exit 0)) (.seq (.block 1 (.seq (.reg [mM 5 3, mM 2 5]) (.reg [mM 6 2, mM 7 2, mB .sub 8 (.c 32) 7, mB .shl 9 (.c (.i .u64 4294967295)) 8, mU 10 (.conv .u32 9), mU 11 (.idxAddrArr 33 1 1 6), mZ (.st 1 11 10)]))) (.reg [mB .add 12 3 (.c 1), mM 3 12]))))))) (.seq (.reg [mR 13 (.ldN 33 1), mZ (.st 33 0 13)]) .ret)))
def r354 : List ARes := [.c true 33 0]
theorem k354 : compFn Tryz.prog 354 = some ⟨14, (s354).er, r354⟩ := by kernel_rfl
abbrev q354 (O : Ops Tryz.prog) := curF 0 (sfn O (s354) r354)
def g354 : { g // g = q354 } := by
  have h : q354 = q354 := rfl
  conv at h => rhs; reduce
  exact ⟨_, h.symm⟩
def C354 : T 354 := mkRun 0 (k354) (by decide) (g354.1 (theOps Tryz.prog)) (by rw [g354.2])
/- 362: rampart/cidr.has -/
def s362 (c354 : T 354) : S := .seq (.reg [mN 2 (.box 0), mK 4 (.b false)]) (.seq (.draw 0 [⟨[], [⟨1, ⟨some 7, .pure (.fieldAddr 1 2), none⟩, 1⟩, ⟨2, ⟨some 8, .read (.ld1 7), none⟩, 1⟩], some (mQ 6 354 [] c354)⟩, ⟨[⟨some 8, .read (.ld1 7), none⟩], [⟨3, ⟨some 9, .pure (.idxArr false 33 1 6 8), none⟩, 1⟩, ⟨4, ⟨some 5, .pure (.mv 9), none⟩, 1⟩], none⟩]) (.seq (.reg [mM 10 1, mM 11 5, mB .and 12 10 11, mF 0 13 2, mL 14 13, mM 15 5, mB .and 16 14 15, mB .eql 17 12 16, mM 4 17]) .ret))
def r362 : List ARes := [.t 4]
theorem k362 (c354 : T 354) : compFn Tryz.prog 362 = some ⟨18, (s362 c354).er, r362⟩ := by kernel_rfl
abbrev q362 (O : Ops Tryz.prog) (c354 : T 354) := curF 2 (sfn O (s362 c354) r362)
def g362 : { g // g = q362 } := by
  have h : q362 = q362 := rfl
  conv at h => rhs; reduce
  exact ⟨_, h.symm⟩
def C362 : T 362 := mkRun 2 (k362 C354) (by decide) (g362.1 (theOps Tryz.prog) C354) (by rw [g362.2])
/- 353: rampart/cidr.goes -/
def s353 (c362 : T 362) : S := .seq (.reg [mK 4 (.b false)]) (.join [0, 1, 5] [] (.reg [mM 8 0, mM 9 1, mU 10 (.idxAddrSl 2 8 9), mR 11 (.ldN 2 10), mN 5 (.newz [.i .u32 0, 0]), mZ (.st 2 5 11)]) (.seq (.seq (.reg [mM 12 0, mU 13 (.lenSl 12), mK 14 0]) (.block 0 (.loop [14] [1, 5, 12, 13] (.seq (.reg [mB .lss 15 14 13]) (.seq (.cond 15 .skip (.exit 0)) (.seq (.block 1 (.join [1, 5, 6, 7, 12, 13, 14] [] (.reg [mM 16 14, mU 17 (.idxAddrSl 2 12 14), mR 18 (.ldN 2 17), mN 7 (.newz [.i .u32 0, 0]), mM 6 16, mZ (.st 2 7 18)]) (.seq (.reg [mM 19 6, mM 20 1, mB .neq 21 19 20, mM 22 21, (mR 23 (.ldN 2 7)).g 22 true, (mF 0 24 5).g 22 true, (mL 25 24).g 22 true, (mQ 26 362 [23, 25] c362).g 22 true, mU 27 (.pick 22 26 (.c (.b false))), mM 28 27, (mF 1 29 7).g 28 true, (mL 30 29).g 28 true, (mF 1 31 5).g 28 true, (mL 32 31).g 28 true, (mB .lss 33 30 32).g 28 true, (mM 34 33).g 28 true, (mF 1 35 7).g 34 false, (mL 36 35).g 34 false, (mF 1 37 5).g 34 false, (mL 38 37).g 34 false, (mB .eql 39 36 38).g 34 false, (mM 40 39).g 34 false, (mM 41 6).g 40 true, (mM 42 1).g 40 true, (mB .lss 43 41 42).g 40 true, (mU 44 (.pick 40 43 (.c (.b false)))).g 34 false, (mU 45 (.pick 34 (.c (.b true)) 44)).g 28 true, mU 46 (.pick 28 45 (.c (.b false)))]) (.cond 46 (.seq (.reg [mK 4 (.b true)]) .ret) .skip)))) (.reg [mB .add 47 14 (.c 1), mM 14 47]))))))) (.seq (.reg [mK 4 (.b false)]) .ret)))
def r353 : List ARes := [.t 4]
theorem k353 (c362 : T 362) : compFn Tryz.prog 353 = some ⟨48, (s353 c362).er, r353⟩ := by kernel_rfl
abbrev q353 (O : Ops Tryz.prog) (c362 : T 362) := curF 2 (sfn O (s353 c362) r353)
def g353 : { g // g = q353 } := by
  have h : q353 = q353 := rfl
  conv at h => rhs; reduce
  exact ⟨_, h.symm⟩
def C353 : T 353 := mkRun 2 (k353 C362) (by decide) (g353.1 (theOps Tryz.prog) C362) (by rw [g353.2])
/- 306: rampart/cidr.Clean -/
def s306 (c153 : T 153) (c353 : T 353) (c354 : T 354) : S := .join [1, 2] [] (.reg [mN 1 (.box 0), mN 2 (.newz [.b false, .sl 0 none 0 0])]) (.join [1, 2] [] (.seq (.reg [mR 6 (.ldN 2 1), mQ 7 153 [6] c153, mU 8 (.un .not 7)]) (.cond 8 (.seq (.reg [mU 9 (.build [.b false, .sl 0 none 0 0] []), mZ (.st 2 2 9)]) .ret) .skip)) (.join [1, 2, 3] [] (.reg [mF 0 10 1, mL 11 10, mU 12 (.build [.b false, .sl 0 none 0 0] [(0, (1, 11))]), mN 3 (.newz [.b false, .sl 0 none 0 0]), mZ (.st 2 3 12)]) (.seq (.join [1, 2, 3, 14, 15, 16] [] (.reg [mF 1 13 1, mL 14 13, mU 15 (.lenSl 14), mK 16 0]) (.block 0 (.loop [16] [1, 2, 3, 14, 15] (.seq (.reg [mB .lss 17 16 15]) (.seq (.cond 17 .skip (.exit 0)) (.join [1, 2, 3, 14, 15, 16] [] (.block 1 (.join [1, 2, 3, 4, 5, 14, 15, 16] [] (.reg [mM 18 16, mU 19 (.idxAddrSl 2 14 16), mR 20 (.ldN 2 19), mN 5 (.newz [.i .u32 0, 0]), mM 4 18, mZ (.st 2 5 20)]) (.join [1, 2, 3, 5, 14, 15, 16, 25] [] (.reg [mF 1 21 1, mL 22 21, mM 23 4, mQ 24 353 [22, 23] c353, mU 25 (.un .not 24)]) (.cond 25 (.draw 16 [⟨[], [⟨0, ⟨some 26, .pure (.fieldAddr 1 3), none⟩, 1⟩, ⟨1, ⟨some 27, .read (.ld1 26), none⟩, 1⟩, ⟨2, ⟨some 28, .pure (.fieldAddr 0 5), none⟩, 1⟩, ⟨3, ⟨some 29, .read (.ld1 28), none⟩, 1⟩, ⟨5, ⟨some 31, .pure (.fieldAddr 1 5), none⟩, 1⟩, ⟨6, ⟨some 32, .read (.ld1 31), none⟩, 1⟩, ⟨9, ⟨some 35, .pure (.fieldAddr 1 5), none⟩, 1⟩, ⟨10, ⟨some 36, .read (.ld1 35), none⟩, 1⟩], some (mQ 30 354 [] c354)⟩, ⟨[⟨some 27, .read (.ld1 26), none⟩, ⟨some 29, .read (.ld1 28), none⟩, ⟨some 32, .read (.ld1 31), none⟩, ⟨some 36, .read (.ld1 35), none⟩], [⟨7, ⟨some 33, .pure (.idxArr false 33 1 30 32), none⟩, 1⟩, ⟨8, ⟨some 34, .pure (.bin .and 29 33), none⟩, 1⟩, ⟨11, ⟨some 37, .pure (.build [.i .u32 0, 0] [(0, (1, 34)), (1, (1, 36))]), none⟩, 1⟩, ⟨12, ⟨some 38, .alloc (.bslice 2 1 [.i .u32 0, 0] [(0, (2, 37))]), none⟩, 1⟩], some (mY 39 (.append 2 16 27 38))⟩, ⟨[], [⟨14, ⟨some 40, .pure (.fieldAddr 1 3), none⟩, 2⟩], some (mZ (.st 1 40 39))⟩, ⟨[], [], none⟩]) .skip)))) (.reg [mB .add 41 16 (.c 1), mM 16 41]))))))) (.seq (.reg [mR 42 (.ldN 2 3), mZ (.st 2 2 42)]) .ret))))
def r306 : List ARes := [.c true 2 2]
theorem k306 (c153 : T 153) (c353 : T 353) (c354 : T 354) : compFn Tryz.prog 306 = some ⟨43, (s306 c153 c353 c354).er, r306⟩ := by kernel_rfl
abbrev q306 (O : Ops Tryz.prog) (c153 : T 153) (c353 : T 353) (c354 : T 354) := curF 1 (sfn O (s306 c153 c353 c354) r306)
def g306 : { g // g = q306 } := by
  have h : q306 = q306 := rfl
  conv at h => rhs; reduce
  exact ⟨_, h.symm⟩
def C306 : T 306 := mkRun 1 (k306 C153 C353 C354) (by decide) (g306.1 (theOps Tryz.prog) C153 C353 C354) (by rw [g306.2])
/- 237: (*rampart/rule.parser).item -/
def s237 (c156 : T 156) (c299 : T 299) (c300 : T 300) (c301 : T 301) (c302 : T 302) (c303 : T 303) (c304 : T 304) (c305 : T 305) (c306 : T 306) : S := .join [0] [] (.seq (.reg [mM 4 0, mQ 5 299 [4, .c 1, .c (.s [118, 97, 114])] c299]) (.cond 5 (.join [0, 2] [] (.reg [mM 6 0, mQ 7 300 [6, .c 1, .c (.s [])] c300, mU 8 (.field false 1 1 7), mM 2 8]) (.seq (.reg [mM 9 0, mQ 10 301 [9, .c (.s [61])] c301]) (.seq (.draw 0 [⟨[], [⟨0, ⟨some 11, .pure (.mv 0), none⟩, 1⟩, ⟨1, ⟨some 12, .pure (.nilCheck 11), none⟩, 1⟩, ⟨2, ⟨some 13, .pure (.fieldAddr 2 12), none⟩, 1⟩, ⟨3, ⟨some 14, .read (.ld1 13), none⟩, 1⟩, ⟨4, ⟨some 15, .pure (.mv 2), none⟩, 1⟩, ⟨5, ⟨some 16, .pure (.mv 0), none⟩, 0⟩], some (mQ 17 302 [16] c302)⟩, ⟨[⟨some 14, .read (.ld1 13), none⟩], [], some (mZ (.mapUpd (.one .s) 14 15 17))⟩, ⟨[], [], none⟩]) (.seq (.reg [mM 18 0, mU 19 (.nilCheck 18), mF 3 20 19, mL 21 20, mB .add 22 21 (.c 1), mU 23 (.nilCheck 18), mF 3 24 23, mZ (.st 1 24 22)]) .ret)))) .skip)) (.join [0] [] (.join [0, 34] [] (.draw 0 [⟨[], [⟨0, ⟨some 25, .pure (.mv 0), none⟩, 0⟩, ⟨1, ⟨some 26, .pure (.nilCheck 25), none⟩, 0⟩, ⟨2, ⟨some 27, .pure (.fieldAddr 1 26), none⟩, 0⟩, ⟨3, ⟨some 28, .read (.ld1 27), none⟩, 0⟩, ⟨4, ⟨some 29, .pure (.mv 0), none⟩, 0⟩, ⟨5, ⟨some 30, .pure (.nilCheck 29), none⟩, 0⟩, ⟨6, ⟨some 31, .pure (.fieldAddr 0 30), none⟩, 0⟩, ⟨7, ⟨some 32, .read (.ld1 31), none⟩, 0⟩, ⟨8, ⟨some 33, .pure (.lenSl 32), none⟩, 0⟩, ⟨9, ⟨some 34, .pure (.bin .lss 28 33), none⟩, 0⟩], none⟩]) (.cond 34 (.draw 21 [⟨[], [⟨0, ⟨some 35, .pure (.mv 0), none⟩, 1⟩, ⟨1, ⟨some 36, .pure (.mv 0), none⟩, 0⟩, ⟨2, ⟨some 37, .pure (.nilCheck 36), none⟩, 0⟩, ⟨3, ⟨some 38, .pure (.fieldAddr 6 37), none⟩, 0⟩, ⟨4, ⟨some 39, .read (.ld1 38), none⟩, 0⟩, ⟨5, ⟨some 40, .pure (.mv 0), none⟩, 0⟩, ⟨6, ⟨some 41, .pure (.nilCheck 40), none⟩, 0⟩, ⟨7, ⟨some 42, .pure (.fieldAddr 0 41), none⟩, 0⟩, ⟨8, ⟨some 43, .read (.ld1 42), none⟩, 0⟩, ⟨9, ⟨some 44, .pure (.mv 0), none⟩, 0⟩, ⟨10, ⟨some 45, .pure (.nilCheck 44), none⟩, 0⟩, ⟨11, ⟨some 46, .pure (.fieldAddr 1 45), none⟩, 0⟩, ⟨12, ⟨some 47, .read (.ld1 46), none⟩, 0⟩, ⟨13, ⟨some 48, .pure (.idxAddrSl 4 43 47), none⟩, 0⟩, ⟨14, ⟨some 49, .pure (.fieldAddr 3 48), none⟩, 0⟩, ⟨15, ⟨some 50, .read (.ld1 49), none⟩, 0⟩, ⟨16, ⟨some 51, .alloc (.bslice 1 1 [0] [(0, (1, 50))]), none⟩, 0⟩], some (mY 52 (.append 1 8 39 51))⟩, ⟨[], [⟨18, ⟨some 53, .pure (.nilCheck 35), none⟩, 1⟩, ⟨19, ⟨some 54, .pure (.fieldAddr 6 53), none⟩, 1⟩], some (mZ (.st 1 54 52))⟩, ⟨[], [], none⟩]) .skip)) (.join [0, 3] [] (.reg [mU 55 (.build [0, 0, .b false, .sl 0 none 0 0, .b false, .sl 0 none 0 0, .b false, .sl 0 none 0 0, .b false, .sl 0 none 0 0, .b false, 0, .sl 0 none 0 0, 0, 0] [(14, (1, .c 1))]), mN 3 (.newz [0, 0, .b false, .sl 0 none 0 0, .b false, .sl 0 none 0 0, .b false, .sl 0 none 0 0, .b false, .sl 0 none 0 0, .b false, 0, .sl 0 none 0 0, 0, 0]), mZ (.st 15 3 55)]) (.join [0, 3] [] (.reg [mM 56 0, mN 57 (.bslice 1 4 [.s [], .s [], .s [], .s []] [(0, (1, .c (.s [97, 108, 101, 114, 116]))), (1, (1, .c (.s [100, 114, 111, 112]))), (2, (1, .c (.s [114, 101, 106, 101, 99, 116]))), (3, (1, .c (.s [98, 108, 111, 99, 107])))]), mQ 58 303 [56, 57] c303, mF 0 59 3, mZ (.st 1 59 58)]) (.join [0, 3] [] (.reg [mN 60 (.bslice 1 4 [0, 0, 0, 0] [(0, (1, .c 6)), (1, (1, .c 17)), (2, (1, .c 1)), (3, (1, .c 0))]), mM 61 0, mN 62 (.bslice 1 4 [.s [], .s [], .s [], .s []] [(0, (1, .c (.s [116, 99, 112]))), (1, (1, .c (.s [117, 100, 112]))), (2, (1, .c (.s [105, 99, 109, 112]))), (3, (1, .c (.s [105, 112])))]), mQ 63 303 [61, 62] c303, mB .sub 64 63 (.c 1), mU 65 (.idxAddrSl 1 60 64), mL 66 65, mF 1 67 3, mZ (.st 1 67 66)]) (.join [0, 3] [] (.reg [mM 68 0, mQ 69 302 [68] c302, mM 70 0, mQ 71 304 [70] c304, mF 2 72 3, mZ (.st 2 72 69), mF 4 73 3, mZ (.st 2 73 71)]) (.join [0, 3] [] (.seq (.reg [mM 74 0, mQ 75 299 [74, .c 4, .c (.s [60, 62])] c299, mF 10 76 3, mZ (.st 1 76 75)]) (.seq (.reg [mF 10 77 3, mL 78 77, mU 79 (.un .not 78)]) (.cond 79 (.reg [mM 80 0, mQ 81 301 [80, .c (.s [45, 62])] c301]) .skip))) (.join [0, 3] [] (.reg [mM 82 0, mQ 83 302 [82] c302, mM 84 0, mQ 85 304 [84] c304, mF 6 86 3, mZ (.st 2 86 83), mF 8 87 3, mZ (.st 2 87 85)]) (.seq (.reg [mM 88 0, mQ 89 301 [88, .c (.s [40])] c301]) (.seq (.reg [mM 90 0, mQ 91 305 [90, 3] c305]) (.join [0, 3] [] (.draw 0 [⟨[], [⟨0, ⟨some 92, .pure (.fieldAddr 2 3), none⟩, 0⟩, ⟨1, ⟨some 93, .read (.ldN 2 92), none⟩, 0⟩, ⟨3, ⟨some 95, .pure (.fieldAddr 6 3), none⟩, 1⟩, ⟨4, ⟨some 96, .read (.ldN 2 95), none⟩, 1⟩, ⟨6, ⟨some 98, .pure (.fieldAddr 4 3), none⟩, 2⟩, ⟨7, ⟨some 99, .read (.ldN 2 98), none⟩, 2⟩, ⟨9, ⟨some 101, .pure (.fieldAddr 8 3), none⟩, 3⟩, ⟨10, ⟨some 102, .read (.ldN 2 101), none⟩, 3⟩], some (mQ 94 306 [93] c306)⟩, ⟨[⟨some 96, .read (.ldN 2 95), none⟩, ⟨some 99, .read (.ldN 2 98), none⟩, ⟨some 102, .read (.ldN 2 101), none⟩], [], some (mQ 97 306 [96] c306)⟩, ⟨[⟨some 99, .read (.ldN 2 98), none⟩, ⟨some 102, .read (.ldN 2 101), none⟩], [], some (mQ 100 156 [99] c156)⟩, ⟨[⟨some 102, .read (.ldN 2 101), none⟩], [], some (mQ 103 156 [102] c156)⟩, ⟨[], [⟨12, ⟨some 104, .pure (.fieldAddr 2 3), none⟩, 4⟩], some (mZ (.st 2 104 94))⟩, ⟨[], [⟨14, ⟨some 105, .pure (.fieldAddr 6 3), none⟩, 5⟩], some (mZ (.st 2 105 97))⟩, ⟨[], [⟨16, ⟨some 106, .pure (.fieldAddr 4 3), none⟩, 6⟩], some (mZ (.st 2 106 100))⟩, ⟨[], [⟨18, ⟨some 107, .pure (.fieldAddr 8 3), none⟩, 7⟩], some (mZ (.st 2 107 103))⟩, ⟨[], [], none⟩]) (.draw 11 [⟨[], [⟨0, ⟨some 108, .pure (.mv 0), none⟩, 1⟩, ⟨1, ⟨some 109, .pure (.mv 0), none⟩, 0⟩, ⟨2, ⟨some 110, .pure (.nilCheck 109), none⟩, 0⟩, ⟨3, ⟨some 111, .pure (.fieldAddr 5 110), none⟩, 0⟩, ⟨4, ⟨some 112, .read (.ld1 111), none⟩, 0⟩, ⟨5, ⟨some 113, .read (.ldN 15 3), none⟩, 0⟩, ⟨6, ⟨some 114, .alloc (.bslice 15 1 [0, 0, .b false, .sl 0 none 0 0, .b false, .sl 0 none 0 0, .b false, .sl 0 none 0 0, .b false, .sl 0 none 0 0, .b false, 0, .sl 0 none 0 0, 0, 0] [(0, (15, 113))]), none⟩, 0⟩], some (mY 115 (.append 15 200 112 114))⟩, ⟨[], [⟨8, ⟨some 116, .pure (.nilCheck 108), none⟩, 1⟩, ⟨9, ⟨some 117, .pure (.fieldAddr 5 116), none⟩, 1⟩], some (mZ (.st 1 117 115))⟩, ⟨[], [], none⟩])))))))))))
def r237 : List ARes := []
theorem k237 (c156 : T 156) (c299 : T 299) (c300 : T 300) (c301 : T 301) (c302 : T 302) (c303 : T 303) (c304 : T 304) (c305 : T 305) (c306 : T 306) : compFn Tryz.prog 237 = some ⟨118, (s237 c156 c299 c300 c301 c302 c303 c304 c305 c306).er, r237⟩ := by kernel_rfl
abbrev q237 (O : Ops Tryz.prog) (c156 : T 156) (c299 : T 299) (c300 : T 300) (c301 : T 301) (c302 : T 302) (c303 : T 303) (c304 : T 304) (c305 : T 305) (c306 : T 306) := curF 1 (sfn O (s237 c156 c299 c300 c301 c302 c303 c304 c305 c306) r237)
def g237 : { g // g = q237 } := by
  have h : q237 = q237 := rfl
  conv at h => rhs; reduce
  exact ⟨_, h.symm⟩
def C237 : T 237 := mkRun 1 (k237 C156 C299 C300 C301 C302 C303 C304 C305 C306) (by decide) (g237.1 (theOps Tryz.prog) C156 C299 C300 C301 C302 C303 C304 C305 C306) (by rw [g237.2])
/- 151: (*rampart/rule.parser).rest -/
def s151 (c151 : T 151) (c237 : T 237) : S := .seq (.draw 0 [⟨[], [⟨0, ⟨some 2, .pure (.mv 0), none⟩, 0⟩, ⟨1, ⟨some 3, .pure (.nilCheck 2), none⟩, 0⟩, ⟨2, ⟨some 4, .pure (.fieldAddr 1 3), none⟩, 0⟩, ⟨3, ⟨some 5, .read (.ld1 4), none⟩, 0⟩, ⟨4, ⟨some 6, .pure (.mv 0), none⟩, 0⟩, ⟨5, ⟨some 7, .pure (.nilCheck 6), none⟩, 0⟩, ⟨6, ⟨some 8, .pure (.fieldAddr 0 7), none⟩, 0⟩, ⟨7, ⟨some 9, .read (.ld1 8), none⟩, 0⟩, ⟨8, ⟨some 10, .pure (.lenSl 9), none⟩, 0⟩, ⟨9, ⟨some 11, .pure (.bin .lss 5 10), none⟩, 0⟩], none⟩]) (.cond 11 (.seq (.reg [mM 12 0, mQ 13 237 [12] c237]) (.reg [mM 14 0, mQ 15 151 [14] c151])) .skip)
def r151 : List ARes := []
theorem k151 (c151 : T 151) (c237 : T 237) : compFn Tryz.prog 151 = some ⟨16, (s151 c151 c237).er, r151⟩ := by kernel_rfl
abbrev q151 (O : Ops Tryz.prog) (c151 : T 151) (c237 : T 237) := curF 1 (sfn O (s151 c151 c237) r151)
def g151 : { g // g = q151 } := by
  have h : q151 = q151 := rfl
  conv at h => rhs; reduce
  exact ⟨_, h.symm⟩
def C151 : RunF Tryz.prog 151 := Nat.rec (motive := fun _ => RunF Tryz.prog 151) (noC Tryz.prog 151) (fun _ ih => mkRun 1 (k151 ih C237) (by decide) (g151.1 (theOps Tryz.prog) ih C237) (by rw [g151.2])) (nat_lit 300)
def C91 : T 91 := runItems C151
/- 155: rampart/rule.bare -/
def s155 : S := .seq (.reg [mN 1 (.box 0), mK 2 (.b false)]) (.seq (.reg [mF 1 3 1, mL 4 3, mU 5 (.lenSl 4), mB .eql 6 5 (.c 0), mM 7 6, (mF 0 8 1).g 7 true, (mL 9 8).g 7 true, (mU 10 (.un .not 9)).g 7 true, mU 11 (.pick 7 10 (.c (.b false))), mM 2 11]) .ret)
def r155 : List ARes := [.t 2]
theorem k155 : compFn Tryz.prog 155 = some ⟨12, (s155).er, r155⟩ := by kernel_rfl
abbrev q155 (O : Ops Tryz.prog) := curF 1 (sfn O (s155) r155)
def g155 : { g // g = q155 } := by
  have h : q155 = q155 := rfl
  conv at h => rhs; reduce
  exact ⟨_, h.symm⟩
def C155 : T 155 := mkRun 1 (k155) (by decide) (g155.1 (theOps Tryz.prog)) (by rw [g155.2])
/- 157: rampart/rule.content -/
def s157 (c152 : T 152) : S := .seq (.reg [mN 2 (.box 0), mK 4 (.b false)]) (.join [1, 2, 5] [] (.reg [mF 0 7 2, mL 8 7, mU 9 (.lenS 8), mM 5 9]) (.join [1, 2, 5, 6] [] (.reg [mM 10 5, mQ 11 152 [10, .c 1, .c 16] c152, mM 12 11, (mF 3 13 2).g 12 true, (mL 14 13).g 12 true, (mQ 15 152 [14, .c 0, .c 65535] c152).g 12 true, mU 16 (.pick 12 15 (.c (.b false))), mM 17 16, (mF 4 18 2).g 17 true, (mL 19 18).g 17 true, (mQ 20 152 [19, .c 0, .c 65535] c152).g 17 true, mU 21 (.pick 17 20 (.c (.b false))), mM 22 21, (mF 7 23 2).g 22 true, (mL 24 23).g 22 true, (mQ 25 152 [24, .c 0, .c 65535] c152).g 22 true, mU 26 (.pick 22 25 (.c (.b false))), mM 27 26, (mF 6 28 2).g 27 true, (mL 29 28).g 27 true, (mQ 30 152 [29, .c (.i .i64 (-65535)), .c 65535] c152).g 27 true, mU 31 (.pick 27 30 (.c (.b false))), mM 6 31]) (.join [2, 5, 6] [] (.join [1, 2, 5, 6, 33] [] (.reg [mF 5 32 2, mL 33 32]) (.cond 33 (.seq (.reg [mM 34 6, mM 35 34, (mF 2 36 2).g 35 true, (mL 37 36).g 35 true, (mU 38 (.un .not 37)).g 35 true, mU 39 (.pick 35 38 (.c (.b false))), mM 40 39, (mM 41 1).g 40 true, mU 42 (.pick 40 41 (.c (.b false))), mM 43 42, (mF 3 44 2).g 43 true, (mL 45 44).g 43 true, (mB .eql 46 45 (.c 0)).g 43 true, mU 47 (.pick 43 46 (.c (.b false))), mM 48 47, (mF 4 49 2).g 48 true, (mL 50 49).g 48 true, (mB .eql 51 50 (.c 0)).g 48 true, mU 52 (.pick 48 51 (.c (.b false))), mM 53 52, (mF 7 54 2).g 53 true, (mL 55 54).g 53 true, (mB .eql 56 55 (.c 0)).g 53 true, (mM 57 56).g 53 true, (mF 7 58 2).g 57 false, (mL 59 58).g 57 false, (mM 60 5).g 57 false, (mB .geq 61 59 60).g 57 false, (mU 62 (.pick 57 (.c (.b true)) 61)).g 53 true, mU 63 (.pick 53 62 (.c (.b false))), mM 4 63]) .ret) .skip)) (.seq (.reg [mM 64 6, mM 65 64, (mF 6 66 2).g 65 true, (mL 67 66).g 65 true, (mB .eql 68 67 (.c 0)).g 65 true, mU 69 (.pick 65 68 (.c (.b false))), mM 70 69, (mF 7 71 2).g 70 true, (mL 72 71).g 70 true, (mB .eql 73 72 (.c 0)).g 70 true, mU 74 (.pick 70 73 (.c (.b false))), mM 75 74, (mF 4 76 2).g 75 true, (mL 77 76).g 75 true, (mB .eql 78 77 (.c 0)).g 75 true, (mM 79 78).g 75 true, (mF 4 80 2).g 79 false, (mL 81 80).g 79 false, (mM 82 5).g 79 false, (mB .geq 83 81 82).g 79 false, (mU 84 (.pick 79 (.c (.b true)) 83)).g 75 true, mU 85 (.pick 75 84 (.c (.b false))), mM 4 85]) .ret))))
def r157 : List ARes := [.t 4]
theorem k157 (c152 : T 152) : compFn Tryz.prog 157 = some ⟨86, (s157 c152).er, r157⟩ := by kernel_rfl
abbrev q157 (O : Ops Tryz.prog) (c152 : T 152) := curF 2 (sfn O (s157 c152) r157)
def g157 : { g // g = q157 } := by
  have h : q157 = q157 := rfl
  conv at h => rhs; reduce
  exact ⟨_, h.symm⟩
def C157 : T 157 := mkRun 2 (k157 C152) (by decide) (g157.1 (theOps Tryz.prog) C152) (by rw [g157.2])
/- 92: rampart/rule.Check -/
def s92 (c152 : T 152) (c153 : T 153) (c154 : T 154) (c155 : T 155) (c156 : T 156) (c157 : T 157) : S := .seq (.reg [mN 1 (.box 0), mK 2 (.b false)]) (.join [1, 3] [] (.reg [mF 0 7 1, mL 8 7, mQ 9 152 [8, .c 1, .c 4] c152, mM 10 9, (mF 1 11 1).g 10 true, (mL 12 11).g 10 true, (mB .eql 13 12 (.c 0)).g 10 true, (mM 14 13).g 10 true, (mF 1 15 1).g 14 false, (mL 16 15).g 14 false, (mB .eql 17 16 (.c 1)).g 14 false, (mU 18 (.pick 14 (.c (.b true)) 17)).g 10 true, (mM 19 18).g 10 true, (mF 1 20 1).g 19 false, (mL 21 20).g 19 false, (mB .eql 22 21 (.c 6)).g 19 false, (mU 23 (.pick 19 (.c (.b true)) 22)).g 10 true, (mM 24 23).g 10 true, (mF 1 25 1).g 24 false, (mL 26 25).g 24 false, (mB .eql 27 26 (.c 17)).g 24 false, (mU 28 (.pick 24 (.c (.b true)) 27)).g 10 true, mU 29 (.pick 10 28 (.c (.b false))), mM 3 29]) (.join [1, 3] [] (.reg [mM 30 3, mM 31 30, (mF 2 32 1).g 31 true, (mR 33 (.ldN 2 32)).g 31 true, (mQ 34 153 [33] c153).g 31 true, mU 35 (.pick 31 34 (.c (.b false))), mM 36 35, (mF 6 37 1).g 36 true, (mR 38 (.ldN 2 37)).g 36 true, (mQ 39 153 [38] c153).g 36 true, mU 40 (.pick 36 39 (.c (.b false))), mM 41 40, (mF 4 42 1).g 41 true, (mR 43 (.ldN 2 42)).g 41 true, (mQ 44 154 [43] c154).g 41 true, mU 45 (.pick 41 44 (.c (.b false))), mM 46 45, (mF 8 47 1).g 46 true, (mR 48 (.ldN 2 47)).g 46 true, (mQ 49 154 [48] c154).g 46 true, mU 50 (.pick 46 49 (.c (.b false))), mM 3 50]) (.join [1, 3] [] (.reg [mM 51 3, mM 52 51, (mF 1 53 1).g 52 true, (mL 54 53).g 52 true, (mB .neq 55 54 (.c 1)).g 52 true, (mM 56 55).g 52 true, (mF 4 57 1).g 56 false, (mR 58 (.ldN 2 57)).g 56 false, (mQ 59 156 [58] c156).g 56 false, (mQ 60 155 [59] c155).g 56 false, (mM 61 60).g 56 false, (mF 8 62 1).g 61 true, (mR 63 (.ldN 2 62)).g 61 true, (mQ 64 156 [63] c156).g 61 true, (mQ 65 155 [64] c155).g 61 true, (mU 66 (.pick 61 65 (.c (.b false)))).g 56 false, (mU 67 (.pick 56 (.c (.b true)) 66)).g 52 true, mU 68 (.pick 52 67 (.c (.b false))), mM 3 68]) (.join [1, 3] [] (.reg [mM 69 3, mM 70 69, (mF 11 71 1).g 70 true, (mL 72 71).g 70 true, (mQ 73 152 [72, .c 0, .c 2] c152).g 70 true, mU 74 (.pick 70 73 (.c (.b false))), mM 75 74, (mF 13 76 1).g 75 true, (mL 77 76).g 75 true, (mQ 78 152 [77, .c 1, .c 999999999] c152).g 75 true, mU 79 (.pick 75 78 (.c (.b false))), mM 80 79, (mF 14 81 1).g 80 true, (mL 82 81).g 80 true, (mQ 83 152 [82, .c 1, .c 999999999] c152).g 80 true, mU 84 (.pick 80 83 (.c (.b false))), mM 85 84, (mF 12 86 1).g 85 true, (mL 87 86).g 85 true, (mU 88 (.lenSl 87)).g 85 true, (mB .leq 89 88 (.c 4)).g 85 true, mU 90 (.pick 85 89 (.c (.b false))), mM 3 90]) (.seq (.reg [mK 4 (.b false)]) (.seq (.join [3, 4, 92, 93, 94] [] (.reg [mF 12 91 1, mL 92 91, mU 93 (.lenSl 92), mK 94 0]) (.block 0 (.loop [3, 4, 94] [92, 93] (.seq (.reg [mB .lss 95 94 93]) (.seq (.cond 95 .skip (.exit 0)) (.seq (.block 1 (.seq (.reg [mU 96 (.idxAddrSl 8 92 94), mR 97 (.ldN 8 96), mN 6 (.newz [.s [], .b false, .b false, 0, 0, .b false, 0, 0]), mZ (.st 8 6 97)]) (.seq (.reg [mM 98 3, mM 99 98, (mR 100 (.ldN 8 6)).g 99 true, (mM 101 4).g 99 true, (mQ 102 157 [100, 101] c157).g 99 true, mU 103 (.pick 99 102 (.c (.b false))), mM 3 103]) (.reg [mM 104 4, mM 105 104, (mF 2 106 6).g 105 false, (mL 107 106).g 105 false, (mU 108 (.un .not 107)).g 105 false, mU 109 (.pick 105 (.c (.b true)) 108), mM 4 109])))) (.reg [mB .add 110 94 (.c 1), mM 94 110]))))))) (.seq (.reg [mM 111 3, mM 2 111]) .ret)))))))
def r92 : List ARes := [.t 2]
theorem k92 (c152 : T 152) (c153 : T 153) (c154 : T 154) (c155 : T 155) (c156 : T 156) (c157 : T 157) : compFn Tryz.prog 92 = some ⟨112, (s92 c152 c153 c154 c155 c156 c157).er, r92⟩ := by kernel_rfl
abbrev q92 (O : Ops Tryz.prog) (c152 : T 152) (c153 : T 153) (c154 : T 154) (c155 : T 155) (c156 : T 156) (c157 : T 157) := curF 1 (sfn O (s92 c152 c153 c154 c155 c156 c157) r92)
def g92 : { g // g = q92 } := by
  have h : q92 = q92 := rfl
  conv at h => rhs; reduce
  exact ⟨_, h.symm⟩
def C92 : T 92 := mkRun 1 (k92 C152 C153 C154 C155 C156 C157) (by decide) (g92.1 (theOps Tryz.prog) C152 C153 C154 C155 C156 C157) (by rw [g92.2])
/- 93: rampart/rule.twice -/
def s93 : S := .seq (.reg [mK 2 0]) (.seq (.reg [mN 6 .mkmap, mM 3 6]) (.seq (.seq (.reg [mM 7 0, mU 8 (.lenSl 7), mK 9 0]) (.block 0 (.loop [9] [3, 7, 8] (.seq (.reg [mB .lss 10 9 8]) (.seq (.cond 10 .skip (.exit 0)) (.seq (.block 1 (.seq (.reg [mM 11 9, mU 12 (.idxAddrSl 15 7 9), mR 13 (.ldN 15 12), mN 5 (.newz [0, 0, .b false, .sl 0 none 0 0, .b false, .sl 0 none 0 0, .b false, .sl 0 none 0 0, .b false, .sl 0 none 0 0, .b false, 0, .sl 0 none 0 0, 0, 0]), mM 4 11, mZ (.st 15 5 13)]) (.seq (.seq (.reg [mM 14 3, mF 13 15 5, mL 16 15, mR 17 (.lookup (.one .i) (.b false) false 14 16)]) (.cond 17 (.seq (.reg [mM 18 4, mM 2 18]) .ret) .skip)) (.reg [mM 19 3, mF 13 20 5, mL 21 20, mZ (.mapUpd (.one .i) 19 21 (.c (.b true)))])))) (.reg [mB .add 22 9 (.c 1), mM 9 22]))))))) (.seq (.reg [mK 2 (.i .i64 (-1))]) .ret)))
def r93 : List ARes := [.t 2]
theorem k93 : compFn Tryz.prog 93 = some ⟨23, (s93).er, r93⟩ := by kernel_rfl
abbrev q93 (O : Ops Tryz.prog) := curF 1 (sfn O (s93) r93)
def g93 : { g // g = q93 } := by
  have h : q93 = q93 := rfl
  conv at h => rhs; reduce
  exact ⟨_, h.symm⟩
def C93 : T 93 := mkRun 1 (k93) (by decide) (g93.1 (theOps Tryz.prog)) (by rw [g93.2])
/- 44: rampart/rule.Parse -/
def s44 (c90 : T 90) (c91 : T 91) (c92 : T 92) (c93 : T 93) : S := .seq (.reg [mK 2 (.sl 0 none 0 0), mK 3 0, mK 4 0]) (.join [3, 4, 5] [] (.reg [mM 12 0, mQ 13 90 [12] c90, mM 11 13, mU 14 (.extract 0 11), mU 15 (.extract 1 11), mU 16 (.extract 2 11), mM 5 14, mM 3 15, mM 4 16]) (.seq (.seq (.reg [mM 17 4, mB .neq 18 17 (.c 0)]) (.cond 18 (.seq (.reg [mM 19 3, mM 20 4, mK 2 (.sl 0 none 0 0), mM 3 19, mM 4 20]) .ret) .skip)) (.join [6] [] (.reg [mM 21 5, mN 22 .mkmap, mU 23 (.build [.sl 0 none 0 0, 0, .m none, 0, .b false, .sl 0 none 0 0, .sl 0 none 0 0] [(0, (1, 21)), (2, (1, 22))]), mN 24 (.box 23), mM 6 24]) (.join [6] [] (.seq (.reg [mM 25 6, mQ 26 91 [25] c91, mM 7 26]) (.seq (.reg [mM 27 7, mB .gtr 28 27 (.c 0)]) (.cond 28 (.seq (.reg [mM 29 7, mK 2 (.sl 0 none 0 0), mM 3 29, mK 4 6]) .ret) .skip))) (.join [6] [] (.seq (.reg [mM 30 6, mU 31 (.nilCheck 30), mF 4 32 31, mL 33 32, mM 34 33, (mM 35 6).g 34 false, (mU 36 (.nilCheck 35)).g 34 false, (mF 5 37 36).g 34 false, (mL 38 37).g 34 false, (mU 39 (.lenSl 38)).g 34 false, (mB .gtr 40 39 (.c 40)).g 34 false, mU 41 (.pick 34 (.c (.b true)) 40), mM 42 41, (mM 43 6).g 42 false, (mU 44 (.nilCheck 43)).g 42 false, (mF 3 45 44).g 42 false, (mL 46 45).g 42 false, (mB .gtr 47 46 (.c 16)).g 42 false, mU 48 (.pick 42 (.c (.b true)) 47)]) (.cond 48 (.seq (.reg [mK 2 (.sl 0 none 0 0), mK 3 0, mK 4 5]) .ret) .skip)) (.join [6] [] (.join [6, 52, 53, 54] [] (.reg [mM 49 6, mU 50 (.nilCheck 49), mF 5 51 50, mL 52 51, mU 53 (.lenSl 52), mK 54 0]) (.block 0 (.loop [54] [6, 52, 53] (.seq (.reg [mB .lss 55 54 53]) (.seq (.cond 55 .skip (.exit 0)) (.seq (.block 1 (.join [6, 8, 9, 52, 53, 54] [] (.reg [mM 56 54, mU 57 (.idxAddrSl 15 52 54), mR 58 (.ldN 15 57), mN 9 (.newz [0, 0, .b false, .sl 0 none 0 0, .b false, .sl 0 none 0 0, .b false, .sl 0 none 0 0, .b false, .sl 0 none 0 0, .b false, 0, .sl 0 none 0 0, 0, 0]), mM 8 56, mZ (.st 15 9 58)]) (.join [6, 8, 52, 53, 54, 61] [] (.reg [mR 59 (.ldN 15 9), mQ 60 92 [59] c92, mU 61 (.un .not 60)]) (.cond 61 (.seq (.draw 0 [⟨[], [⟨0, ⟨some 62, .pure (.mv 6), none⟩, 0⟩, ⟨1, ⟨some 63, .pure (.nilCheck 62), none⟩, 0⟩, ⟨2, ⟨some 64, .pure (.fieldAddr 6 63), none⟩, 0⟩, ⟨3, ⟨some 65, .read (.ld1 64), none⟩, 0⟩, ⟨4, ⟨some 66, .pure (.mv 8), none⟩, 0⟩, ⟨5, ⟨some 67, .pure (.idxAddrSl 1 65 66), none⟩, 0⟩, ⟨6, ⟨some 68, .read (.ld1 67), none⟩, 0⟩, ⟨7, ⟨some 2, .pure (.mv (.c (.sl 0 none 0 0))), none⟩, 0⟩, ⟨8, ⟨some 3, .pure (.mv 68), none⟩, 0⟩, ⟨9, ⟨some 4, .pure (.mv (.c 7)), none⟩, 0⟩], none⟩]) .ret) .skip)))) (.reg [mB .add 69 54 (.c 1), mM 54 69]))))))) (.seq (.join [6, 10] [] (.reg [mM 70 6, mU 71 (.nilCheck 70), mF 5 72 71, mL 73 72, mQ 74 93 [73] c93, mM 10 74]) (.seq (.reg [mM 75 10, mB .geq 76 75 (.c 0)]) (.cond 76 (.seq (.draw 0 [⟨[], [⟨0, ⟨some 77, .pure (.mv 6), none⟩, 0⟩, ⟨1, ⟨some 78, .pure (.nilCheck 77), none⟩, 0⟩, ⟨2, ⟨some 79, .pure (.fieldAddr 6 78), none⟩, 0⟩, ⟨3, ⟨some 80, .read (.ld1 79), none⟩, 0⟩, ⟨4, ⟨some 81, .pure (.mv 10), none⟩, 0⟩, ⟨5, ⟨some 82, .pure (.idxAddrSl 1 80 81), none⟩, 0⟩, ⟨6, ⟨some 83, .read (.ld1 82), none⟩, 0⟩, ⟨7, ⟨some 2, .pure (.mv (.c (.sl 0 none 0 0))), none⟩, 0⟩, ⟨8, ⟨some 3, .pure (.mv 83), none⟩, 0⟩, ⟨9, ⟨some 4, .pure (.mv (.c 8)), none⟩, 0⟩], none⟩]) .ret) .skip))) (.seq (.reg [mM 84 6, mU 85 (.nilCheck 84), mF 5 86 85, mL 87 86, mM 2 87, mK 3 0, mK 4 0]) .ret))))))))
def r44 : List ARes := [.t 2, .t 3, .t 4]
theorem k44 (c90 : T 90) (c91 : T 91) (c92 : T 92) (c93 : T 93) : compFn Tryz.prog 44 = some ⟨88, (s44 c90 c91 c92 c93).er, r44⟩ := by kernel_rfl
abbrev q44 (O : Ops Tryz.prog) (c90 : T 90) (c91 : T 91) (c92 : T 92) (c93 : T 93) := curF 1 (sfn O (s44 c90 c91 c92 c93) r44)
def g44 : { g // g = q44 } := by
  have h : q44 = q44 := rfl
  conv at h => rhs; reduce
  exact ⟨_, h.symm⟩
def C44 : T 44 := mkRun 1 (k44 C90 C91 C92 C93) (by decide) (g44.1 (theOps Tryz.prog) C90 C91 C92 C93) (by rw [g44.2])
/- 45: rampart/auto.Fold -/
def s45 : S := .seq (.reg [mK 2 (.s [])]) (.seq (.reg [mM 6 0, mN 7 (.s2b 6), mM 3 7]) (.seq (.seq (.reg [mM 8 3, mU 9 (.lenSl 8), mK 10 0]) (.block 0 (.loop [10] [3, 8, 9] (.seq (.reg [mB .lss 11 10 9]) (.seq (.cond 11 .skip (.exit 0)) (.join [3, 8, 9, 10] [] (.block 1 (.seq (.reg [mM 12 10, mU 13 (.idxAddrSl 1 8 10), mL 14 13, mM 4 12, mM 5 14]) (.seq (.reg [mM 15 5, mB .geq 16 15 (.c (.i .u8 65)), mM 17 16, (mM 18 5).g 17 true, (mB .leq 19 18 (.c (.i .u8 90))).g 17 true, mU 20 (.pick 17 19 (.c (.b false)))]) (.cond 20 (.reg [mM 21 3, mM 22 4, mM 23 5, mB .sub 24 23 (.c (.i .u8 65)), mB .add 25 24 (.c (.i .u8 97)), mU 26 (.idxAddrSl 1 21 22), mZ (.st 1 26 25)]) .skip)))) (.reg [mB .add 27 10 (.c 1), mM 10 27]))))))) (.seq (.reg [mM 28 3, mR 29 (.b2s 28), mM 2 29]) .ret)))
def r45 : List ARes := [.t 2]
theorem k45 : compFn Tryz.prog 45 = some ⟨30, (s45).er, r45⟩ := by kernel_rfl
abbrev q45 (O : Ops Tryz.prog) := curF 1 (sfn O (s45) r45)
def g45 : { g // g = q45 } := by
  have h : q45 = q45 := rfl
  conv at h => rhs; reduce
  exact ⟨_, h.symm⟩
def C45 : T 45 := mkRun 1 (k45) (by decide) (g45.1 (theOps Tryz.prog)) (by rw [g45.2])
/- 94: rampart/trie.New -/
def s94 : S := .seq (.reg [mK 0 (.p none)]) (.seq (.draw 7 [⟨[], [⟨0, ⟨some 1, .alloc .mkmap, none⟩, 0⟩, ⟨1, ⟨some 2, .alloc (.mkslice 2 16 [0, .i .u8 0] (.c 1) (.c 1)), none⟩, 0⟩, ⟨2, ⟨some 3, .alloc (.mkslice 1 24 [.sl 0 none 0 0] (.c 1) (.c 1)), none⟩, 0⟩, ⟨3, ⟨some 4, .alloc (.mkslice 1 8 [0] (.c 1) (.c 1)), none⟩, 0⟩, ⟨4, ⟨some 5, .pure (.build [.m none, .sl 0 none 0 0, .sl 0 none 0 0, .sl 0 none 0 0, 0] [(0, (1, 1)), (1, (1, 2)), (2, (1, 3)), (3, (1, 4))]), none⟩, 0⟩, ⟨5, ⟨some 6, .alloc (.box 5), none⟩, 0⟩, ⟨6, ⟨some 0, .pure (.mv 6), none⟩, 0⟩], none⟩]) .ret)
def r94 : List ARes := [.t 0]
theorem k94 : compFn Tryz.prog 94 = some ⟨7, (s94).er, r94⟩ := by kernel_rfl
abbrev q94 (O : Ops Tryz.prog) := curF 0 (sfn O (s94) r94)
def g94 : { g // g = q94 } := by
  have h : q94 = q94 := rfl
  conv at h => rhs; reduce
  exact ⟨_, h.symm⟩
def C94 : T 94 := mkRun 0 (k94) (by decide) (g94.1 (theOps Tryz.prog)) (by rw [g94.2])
/- 95: (*rampart/trie.Trie).Add -/
def s95 : S := .seq (.reg [mK 4 0]) (.seq (.reg [mK 5 0]) (.join [0, 5] [] (.join [0, 5, 16, 17, 18] [] (.reg [mM 11 1, mM 12 1, mU 13 (.lenS 12), mU 14 (.mxmn false [13, .c 16]), mU 15 (.slStr 11 none (some 14)), mN 16 (.s2b 15), mU 17 (.lenSl 16), mK 18 0]) (.block 0 (.loop [5, 18] [0, 16, 17] (.seq (.reg [mB .lss 19 18 17]) (.seq (.cond 19 .skip (.exit 0)) (.seq (.block 1 (.join [0, 5, 7, 16, 17, 18] [] (.reg [mU 20 (.idxAddrSl 1 16 18), mL 21 20, mM 7 21]) (.join [0, 5, 8, 16, 17, 18] [] (.reg [mM 22 5, mM 23 7, mU 24 (.build [0, .i .u8 0] [(0, (1, 22)), (1, (1, 23))]), mN 8 (.newz [0, .i .u8 0]), mZ (.st 2 8 24)]) (.join [0, 5, 8, 9, 10, 16, 17, 18] [] (.draw 0 [⟨[], [⟨0, ⟨some 26, .pure (.mv 0), none⟩, 0⟩, ⟨1, ⟨some 27, .pure (.nilCheck 26), none⟩, 0⟩, ⟨2, ⟨some 28, .pure (.fieldAddr 0 27), none⟩, 0⟩, ⟨3, ⟨some 29, .read (.ld1 28), none⟩, 0⟩, ⟨4, ⟨some 30, .read (.ldN 2 8), none⟩, 0⟩, ⟨5, ⟨some 31, .read (.lookup (.flat [(0, .i), (1, .i)]) 0 true 29 30), none⟩, 0⟩, ⟨6, ⟨some 25, .pure (.mv 31), none⟩, 0⟩, ⟨7, ⟨some 32, .pure (.extract 0 25), none⟩, 0⟩, ⟨8, ⟨some 33, .pure (.extract 1 25), none⟩, 0⟩, ⟨9, ⟨some 9, .pure (.mv 32), none⟩, 0⟩, ⟨10, ⟨some 10, .pure (.mv 33), none⟩, 0⟩], none⟩]) (.join [0, 9, 16, 17, 18] [] (.seq (.reg [mM 34 10, mU 35 (.un .not 34)]) (.cond 35 (.join [0, 5, 8, 9, 16, 17, 18] [] (.reg [mM 36 0, mU 37 (.nilCheck 36), mF 1 38 37, mL 39 38, mU 40 (.lenSl 39), mM 9 40]) (.join [0, 5, 8, 9, 16, 17, 18] [] (.draw 0 [⟨[], [⟨0, ⟨some 41, .pure (.mv 0), none⟩, 0⟩, ⟨1, ⟨some 42, .pure (.nilCheck 41), none⟩, 0⟩, ⟨2, ⟨some 43, .pure (.fieldAddr 0 42), none⟩, 0⟩, ⟨3, ⟨some 44, .read (.ld1 43), none⟩, 0⟩, ⟨4, ⟨some 45, .read (.ldN 2 8), none⟩, 0⟩, ⟨5, ⟨some 46, .pure (.mv 9), none⟩, 0⟩], some (mZ (.mapUpd (.flat [(0, .i), (1, .i)]) 44 45 46))⟩, ⟨[], [], none⟩]) (.draw 39 [⟨[], [⟨0, ⟨some 47, .pure (.mv 0), none⟩, 3⟩, ⟨1, ⟨some 48, .pure (.mv 0), none⟩, 4⟩, ⟨2, ⟨some 49, .pure (.mv 0), none⟩, 5⟩, ⟨3, ⟨some 50, .pure (.mv 0), none⟩, 0⟩, ⟨4, ⟨some 51, .pure (.nilCheck 50), none⟩, 0⟩, ⟨5, ⟨some 52, .pure (.fieldAddr 1 51), none⟩, 0⟩, ⟨6, ⟨some 53, .read (.ld1 52), none⟩, 0⟩, ⟨7, ⟨some 54, .read (.ldN 2 8), none⟩, 0⟩, ⟨8, ⟨some 55, .alloc (.bslice 2 1 [0, .i .u8 0] [(0, (2, 54))]), none⟩, 0⟩, ⟨10, ⟨some 57, .pure (.mv 0), none⟩, 1⟩, ⟨11, ⟨some 58, .pure (.nilCheck 57), none⟩, 1⟩, ⟨12, ⟨some 59, .pure (.fieldAddr 2 58), none⟩, 1⟩, ⟨13, ⟨some 60, .read (.ld1 59), none⟩, 1⟩, ⟨14, ⟨some 61, .alloc (.bslice 1 1 [.sl 0 none 0 0] [(0, (1, .c (.sl 0 none 0 0)))]), none⟩, 1⟩, ⟨16, ⟨some 63, .pure (.mv 0), none⟩, 2⟩, ⟨17, ⟨some 64, .pure (.nilCheck 63), none⟩, 2⟩, ⟨18, ⟨some 65, .pure (.fieldAddr 3 64), none⟩, 2⟩, ⟨19, ⟨some 66, .read (.ld1 65), none⟩, 2⟩, ⟨20, ⟨some 67, .pure (.mv 0), none⟩, 2⟩, ⟨21, ⟨some 68, .pure (.nilCheck 67), none⟩, 2⟩, ⟨22, ⟨some 69, .pure (.fieldAddr 3 68), none⟩, 2⟩, ⟨23, ⟨some 70, .read (.ld1 69), none⟩, 2⟩, ⟨24, ⟨some 71, .pure (.mv 5), none⟩, 2⟩, ⟨25, ⟨some 72, .pure (.idxAddrSl 1 70 71), none⟩, 2⟩, ⟨26, ⟨some 73, .read (.ld1 72), none⟩, 2⟩, ⟨27, ⟨some 74, .pure (.bin .add 73 (.c 1)), none⟩, 2⟩, ⟨28, ⟨some 75, .alloc (.bslice 1 1 [0] [(0, (1, 74))]), none⟩, 2⟩], some (mY 56 (.append 2 16 53 55))⟩, ⟨[⟨some 60, .read (.ld1 59), none⟩, ⟨some 66, .read (.ld1 65), none⟩, ⟨some 70, .read (.ld1 69), none⟩, ⟨some 73, .read (.ld1 72), none⟩], [], some (mY 62 (.append 1 24 60 61))⟩, ⟨[⟨some 66, .read (.ld1 65), none⟩, ⟨some 70, .read (.ld1 69), none⟩, ⟨some 73, .read (.ld1 72), none⟩], [], some (mY 76 (.append 1 8 66 75))⟩, ⟨[], [⟨30, ⟨some 77, .pure (.nilCheck 47), none⟩, 3⟩, ⟨31, ⟨some 78, .pure (.fieldAddr 1 77), none⟩, 3⟩], some (mZ (.st 1 78 56))⟩, ⟨[], [⟨33, ⟨some 79, .pure (.nilCheck 48), none⟩, 4⟩, ⟨34, ⟨some 80, .pure (.fieldAddr 2 79), none⟩, 4⟩], some (mZ (.st 1 80 62))⟩, ⟨[], [⟨36, ⟨some 81, .pure (.nilCheck 49), none⟩, 5⟩, ⟨37, ⟨some 82, .pure (.fieldAddr 3 81), none⟩, 5⟩], some (mZ (.st 1 82 76))⟩, ⟨[], [], none⟩]))) .skip)) (.reg [mM 83 9, mM 5 83])))))) (.reg [mB .add 84 18 (.c 1), mM 18 84]))))))) (.join [0] [] (.draw 20 [⟨[], [⟨0, ⟨some 85, .pure (.mv 0), none⟩, 1⟩, ⟨1, ⟨some 86, .pure (.nilCheck 85), none⟩, 1⟩, ⟨2, ⟨some 87, .pure (.fieldAddr 2 86), none⟩, 1⟩, ⟨3, ⟨some 88, .read (.ld1 87), none⟩, 1⟩, ⟨4, ⟨some 89, .pure (.mv 5), none⟩, 1⟩, ⟨5, ⟨some 90, .pure (.mv 0), none⟩, 0⟩, ⟨6, ⟨some 91, .pure (.nilCheck 90), none⟩, 0⟩, ⟨7, ⟨some 92, .pure (.fieldAddr 2 91), none⟩, 0⟩, ⟨8, ⟨some 93, .read (.ld1 92), none⟩, 0⟩, ⟨9, ⟨some 94, .pure (.mv 5), none⟩, 0⟩, ⟨10, ⟨some 95, .pure (.idxAddrSl 1 93 94), none⟩, 0⟩, ⟨11, ⟨some 96, .read (.ld1 95), none⟩, 0⟩, ⟨12, ⟨some 97, .pure (.mv 0), none⟩, 0⟩, ⟨13, ⟨some 98, .pure (.nilCheck 97), none⟩, 0⟩, ⟨14, ⟨some 99, .pure (.fieldAddr 4 98), none⟩, 0⟩, ⟨15, ⟨some 100, .read (.ld1 99), none⟩, 0⟩, ⟨16, ⟨some 101, .alloc (.bslice 1 1 [0] [(0, (1, 100))]), none⟩, 0⟩], some (mY 102 (.append 1 8 96 101))⟩, ⟨[⟨some 88, .read (.ld1 87), none⟩], [⟨18, ⟨some 103, .pure (.idxAddrSl 1 88 89), none⟩, 1⟩], some (mZ (.st 1 103 102))⟩, ⟨[], [], none⟩]) (.seq (.reg [mM 104 0, mU 105 (.nilCheck 104), mF 4 106 105, mL 107 106, mB .add 108 107 (.c 1), mU 109 (.nilCheck 104), mF 4 110 109, mZ (.st 1 110 108)]) (.seq (.reg [mM 111 0, mU 112 (.nilCheck 111), mF 4 113 112, mL 114 113, mB .sub 115 114 (.c 1), mM 4 115]) .ret)))))
def r95 : List ARes := [.t 4]
theorem k95 : compFn Tryz.prog 95 = some ⟨116, (s95).er, r95⟩ := by kernel_rfl
abbrev q95 (O : Ops Tryz.prog) := curF 2 (sfn O (s95) r95)
def g95 : { g // g = q95 } := by
  have h : q95 = q95 := rfl
  conv at h => rhs; reduce
  exact ⟨_, h.symm⟩
def C95 : T 95 := mkRun 2 (k95) (by decide) (g95.1 (theOps Tryz.prog)) (by rw [g95.2])
/- 96: (*rampart/trie.Trie).States -/
def s96 : S := .seq (.reg [mK 2 0]) (.seq (.reg [mM 3 0, mU 4 (.nilCheck 3), mF 1 5 4, mL 6 5, mU 7 (.lenSl 6), mM 2 7]) .ret)
def r96 : List ARes := [.t 2]
theorem k96 : compFn Tryz.prog 96 = some ⟨8, (s96).er, r96⟩ := by kernel_rfl
abbrev q96 (O : Ops Tryz.prog) := curF 1 (sfn O (s96) r96)
def g96 : { g // g = q96 } := by
  have h : q96 = q96 := rfl
  conv at h => rhs; reduce
  exact ⟨_, h.symm⟩
def C96 : T 96 := mkRun 1 (k96) (by decide) (g96.1 (theOps Tryz.prog)) (by rw [g96.2])
/- 158: slices.Clone[[]int,int] -/
def s158 : S := .seq (.reg [mK 2 (.sl 0 none 0 0)]) (.seq (.seq (.reg [mM 3 0, mU 4 (.isNil 0 false 3 (.c (.sl 0 none 0 0)))]) (.cond 4 (.seq (.reg [mK 2 (.sl 0 none 0 0)]) .ret) .skip)) (.seq (.reg [mN 5 (.bslice 1 0 [] []), mM 6 0, mY 7 (.append 1 8 5 6), mM 2 7]) .ret))
def r158 : List ARes := [.t 2]
theorem k158 : compFn Tryz.prog 158 = some ⟨8, (s158).er, r158⟩ := by kernel_rfl
abbrev q158 (O : Ops Tryz.prog) := curF 1 (sfn O (s158) r158)
def g158 : { g // g = q158 } := by
  have h : q158 = q158 := rfl
  conv at h => rhs; reduce
  exact ⟨_, h.symm⟩
def C158 : T 158 := mkRun 1 (k158) (by decide) (g158.1 (theOps Tryz.prog)) (by rw [g158.2])
/- 241: (*rampart/trie.Trie).none -/
def s241 : S := .seq (.reg [mK 4 (.b false)]) (.seq (.reg [mM 5 1, mB .lss 6 5 (.c 0), mM 7 6, (mM 8 1).g 7 false, (mM 9 0).g 7 false, (mU 10 (.nilCheck 9)).g 7 false, (mF 1 11 10).g 7 false, (mL 12 11).g 7 false, (mU 13 (.lenSl 12)).g 7 false, (mB .geq 14 8 13).g 7 false, mU 15 (.pick 7 (.c (.b true)) 14), mM 4 15]) .ret)
def r241 : List ARes := [.t 4]
theorem k241 : compFn Tryz.prog 241 = some ⟨16, (s241).er, r241⟩ := by kernel_rfl
abbrev q241 (O : Ops Tryz.prog) := curF 2 (sfn O (s241) r241)
def g241 : { g // g = q241 } := by
  have h : q241 = q241 := rfl
  conv at h => rhs; reduce
  exact ⟨_, h.symm⟩
def C241 : T 241 := mkRun 2 (k241) (by decide) (g241.1 (theOps Tryz.prog)) (by rw [g241.2])
/- 159: (*rampart/trie.Trie).Ends -/
def s159 (c158 : T 158) (c241 : T 241) : S := .seq (.reg [mK 4 (.sl 0 none 0 0)]) (.seq (.seq (.reg [mM 5 0, mM 6 1, mQ 7 241 [5, 6] c241]) (.cond 7 (.seq (.reg [mK 4 (.sl 0 none 0 0)]) .ret) .skip)) (.seq (.reg [mM 8 0, mU 9 (.nilCheck 8), mF 2 10 9, mL 11 10, mM 12 1, mU 13 (.idxAddrSl 1 11 12), mL 14 13, mQ 15 158 [14] c158, mM 4 15]) .ret))
def r159 : List ARes := [.t 4]
theorem k159 (c158 : T 158) (c241 : T 241) : compFn Tryz.prog 159 = some ⟨16, (s159 c158 c241).er, r159⟩ := by kernel_rfl
abbrev q159 (O : Ops Tryz.prog) (c158 : T 158) (c241 : T 241) := curF 2 (sfn O (s159 c158 c241) r159)
def g159 : { g // g = q159 } := by
  have h : q159 = q159 := rfl
  conv at h => rhs; reduce
  exact ⟨_, h.symm⟩
def C159 : T 159 := mkRun 2 (k159 C158 C241) (by decide) (g159.1 (theOps Tryz.prog) C158 C241) (by rw [g159.2])
/- 361: cmp.isNaN[int] -/
def s361 : S := .seq (.reg [mK 2 (.b false)]) (.seq (.reg [mM 3 0, mM 4 0, mB .neq 5 3 4, mM 2 5]) .ret)
def r361 : List ARes := [.t 2]
theorem k361 : compFn Tryz.prog 361 = some ⟨6, (s361).er, r361⟩ := by kernel_rfl
abbrev q361 (O : Ops Tryz.prog) := curF 1 (sfn O (s361) r361)
def g361 : { g // g = q361 } := by
  have h : q361 = q361 := rfl
  conv at h => rhs; reduce
  exact ⟨_, h.symm⟩
def C361 : T 361 := mkRun 1 (k361) (by decide) (g361.1 (theOps Tryz.prog)) (by rw [g361.2])
/- 315: cmp.Less[int] -/
def s315 (c361 : T 361) : S := .seq (.reg [mK 4 (.b false)]) (.seq (.reg [mM 5 0, mQ 6 361 [5] c361, mM 7 6, (mM 8 1).g 7 true, (mQ 9 361 [8] c361).g 7 true, (mU 10 (.un .not 9)).g 7 true, mU 11 (.pick 7 10 (.c (.b false))), mM 12 11, (mM 13 0).g 12 false, (mM 14 1).g 12 false, (mB .lss 15 13 14).g 12 false, mU 16 (.pick 12 (.c (.b true)) 15), mM 4 16]) .ret)
def r315 : List ARes := [.t 4]
theorem k315 (c361 : T 361) : compFn Tryz.prog 315 = some ⟨17, (s315 c361).er, r315⟩ := by kernel_rfl
abbrev q315 (O : Ops Tryz.prog) (c361 : T 361) := curF 2 (sfn O (s315 c361) r315)
def g315 : { g // g = q315 } := by
  have h : q315 = q315 := rfl
  conv at h => rhs; reduce
  exact ⟨_, h.symm⟩
def C315 : T 315 := mkRun 2 (k315 C361) (by decide) (g315.1 (theOps Tryz.prog) C361) (by rw [g315.2])
/- 309: slices.insertionSortOrdered[int] -/
def s309 (c315 : T 315) : S := .seq (.reg [mM 8 1, mB .add 9 8 (.c 1), mM 6 9]) (.block 0 (.loop [6] [0, 1, 2] (.seq (.seq (.reg [mM 10 6, mM 11 2, mB .lss 12 10 11]) (.cond 12 .skip (.exit 0))) (.seq (.block 1 (.seq (.reg [mM 15 6, mM 7 15]) (.block 2 (.loop [7] [0, 1, 2, 6] (.join [0, 1, 2, 6, 7] [] (.seq (.draw 0 [⟨[], [⟨0, ⟨some 16, .pure (.mv 7), none⟩, 0⟩, ⟨1, ⟨some 17, .pure (.mv 1), none⟩, 0⟩, ⟨2, ⟨some 18, .pure (.bin .gtr 16 17), none⟩, 0⟩, ⟨3, ⟨some 19, .pure (.mv 18), none⟩, 0⟩, ⟨4, ⟨some 20, .pure (.mv 0), some (19, true)⟩, 0⟩, ⟨5, ⟨some 21, .pure (.mv 7), some (19, true)⟩, 0⟩, ⟨6, ⟨some 22, .pure (.idxAddrSl 1 20 21), some (19, true)⟩, 0⟩, ⟨7, ⟨some 23, .read (.ld1 22), some (19, true)⟩, 0⟩, ⟨8, ⟨some 24, .pure (.mv 0), some (19, true)⟩, 0⟩, ⟨9, ⟨some 25, .pure (.mv 7), some (19, true)⟩, 0⟩, ⟨10, ⟨some 26, .pure (.bin .sub 25 (.c 1)), some (19, true)⟩, 0⟩, ⟨11, ⟨some 27, .pure (.idxAddrSl 1 24 26), some (19, true)⟩, 0⟩, ⟨12, ⟨some 28, .read (.ld1 27), some (19, true)⟩, 0⟩], some ((mQ 29 315 [23, 28] c315).g 19 true)⟩, ⟨[], [⟨14, ⟨some 30, .pure (.pick 19 29 (.c (.b false))), none⟩, 1⟩], none⟩]) (.cond 30 .skip (.exit 2))) (.seq (.block 3 (.draw 0 [⟨[], [⟨0, ⟨some 33, .pure (.mv 0), none⟩, 0⟩, ⟨1, ⟨some 34, .pure (.mv 7), none⟩, 0⟩, ⟨2, ⟨some 35, .pure (.mv 0), none⟩, 1⟩, ⟨3, ⟨some 36, .pure (.mv 7), none⟩, 1⟩, ⟨4, ⟨some 37, .pure (.bin .sub 36 (.c 1)), none⟩, 1⟩, ⟨5, ⟨some 38, .pure (.mv 0), none⟩, 0⟩, ⟨6, ⟨some 39, .pure (.mv 7), none⟩, 0⟩, ⟨7, ⟨some 40, .pure (.bin .sub 39 (.c 1)), none⟩, 0⟩, ⟨8, ⟨some 41, .pure (.idxAddrSl 1 38 40), none⟩, 0⟩, ⟨9, ⟨some 42, .read (.ld1 41), none⟩, 0⟩, ⟨10, ⟨some 43, .pure (.mv 0), none⟩, 0⟩, ⟨11, ⟨some 44, .pure (.mv 7), none⟩, 0⟩, ⟨12, ⟨some 45, .pure (.idxAddrSl 1 43 44), none⟩, 0⟩, ⟨13, ⟨some 46, .read (.ld1 45), none⟩, 0⟩, ⟨14, ⟨some 47, .pure (.idxAddrSl 1 33 34), none⟩, 0⟩], some (mZ (.st 1 47 42))⟩, ⟨[], [⟨16, ⟨some 48, .pure (.idxAddrSl 1 35 37), none⟩, 1⟩], some (mZ (.st 1 48 46))⟩, ⟨[], [], none⟩])) (.reg [mM 31 7, mB .sub 32 31 (.c 1), mM 7 32]))))))) (.reg [mM 13 6, mB .add 14 13 (.c 1), mM 6 14])))))
def r309 : List ARes := []
theorem k309 (c315 : T 315) : compFn Tryz.prog 309 = some ⟨49, (s309 c315).er, r309⟩ := by kernel_rfl
abbrev q309 (O : Ops Tryz.prog) (c315 : T 315) := curF 3 (sfn O (s309 c315) r309)
def g309 : { g // g = q309 } := by
  have h : q309 = q309 := rfl
  conv at h => rhs; reduce
  exact ⟨_, h.symm⟩
def C309 : T 309 := mkRun 3 (k309 C315) (by decide) (g309.1 (theOps Tryz.prog) C315) (by rw [g309.2])
/- 242: slices.pdqsortOrdered[int] -/
def s242 (c309 : T 309) : S := .seq (.reg [mK 8 (.b true)]) (.seq (.reg [mK 9 (.b true)]) (.block 0 (.loop [1, 2, 3, 8, 9] [0] (.block 1 (.seq (.reg [mM 19 2, mM 20 1, mB .sub 21 19 20, mM 10 21]) (.join [0, 1, 2, 3, 8, 9, 10] [] (.seq (.reg [mM 22 10, mB .leq 23 22 (.c 12)]) (.cond 23 (.seq (.reg [mM 24 0, mM 25 1, mM 26 2, mQ 27 309 [24, 25, 26] c309]) .ret) .skip)) (.join [0, 1, 2, 3, 8, 9, 10] [] (.seq (.reg [mM 28 3, mB .eql 29 28 (.c 0)]) (.cond 29 (.seq (.reg [mM 30 0, mM 31 1, mM 32 2, mQ 33 310 [30, 31, 32] (noC _ 310)]) .ret) .skip)) (.join [0, 1, 2, 3, 8, 9, 10] [] (.seq (.reg [mM 34 8, mU 35 (.un .not 34)]) (.cond 35 (.seq (.reg [mM 36 0, mM 37 1, mM 38 2, mQ 39 311 [36, 37, 38] (noC _ 311)]) (.reg [mM 40 3, mB .sub 41 40 (.c 1), mM 3 41])) .skip)) (.join [0, 1, 2, 3, 8, 9, 10, 11, 12] [] (.reg [mM 43 0, mM 44 1, mM 45 2, mQ 46 312 [43, 44, 45] (noC _ 312), mM 42 46, mU 47 (.extract 0 42), mU 48 (.extract 1 42), mM 11 47, mM 12 48]) (.join [0, 1, 2, 3, 8, 9, 10, 11, 12] [] (.seq (.reg [mM 49 12, mB .eql 50 49 (.c 2)]) (.cond 50 (.seq (.reg [mM 51 0, mM 52 1, mM 53 2, mQ 54 313 [51, 52, 53] (noC _ 313)]) (.seq (.reg [mM 55 2, mB .sub 56 55 (.c 1), mM 57 11, mM 58 1, mB .sub 59 57 58, mB .sub 60 56 59, mM 11 60]) (.reg [mK 12 1]))) .skip)) (.join [0, 1, 2, 3, 8, 9, 10, 11] [] (.seq (.reg [mM 61 8, mM 62 61, (mM 63 9).g 62 true, mU 64 (.pick 62 63 (.c (.b false))), mM 65 64, (mM 66 12).g 65 true, (mB .eql 67 66 (.c 1)).g 65 true, mU 68 (.pick 65 67 (.c (.b false)))]) (.cond 68 (.seq (.reg [mM 69 0, mM 70 1, mM 71 2, mQ 72 314 [69, 70, 71] (noC _ 314)]) (.cond 72 .ret .skip)) .skip)) (.join [0, 1, 2, 3, 10, 11] [] (.seq (.draw 0 [⟨[], [⟨0, ⟨some 73, .pure (.mv 1), none⟩, 0⟩, ⟨1, ⟨some 74, .pure (.bin .gtr 73 (.c 0)), none⟩, 0⟩, ⟨2, ⟨some 75, .pure (.mv 74), none⟩, 0⟩, ⟨3, ⟨some 76, .pure (.mv 0), some (75, true)⟩, 0⟩, ⟨4, ⟨some 77, .pure (.mv 1), some (75, true)⟩, 0⟩, ⟨5, ⟨some 78, .pure (.bin .sub 77 (.c 1)), some (75, true)⟩, 0⟩, ⟨6, ⟨some 79, .pure (.idxAddrSl 1 76 78), some (75, true)⟩, 0⟩, ⟨7, ⟨some 80, .read (.ld1 79), some (75, true)⟩, 0⟩, ⟨8, ⟨some 81, .pure (.mv 0), some (75, true)⟩, 0⟩, ⟨9, ⟨some 82, .pure (.mv 11), some (75, true)⟩, 0⟩, ⟨10, ⟨some 83, .pure (.idxAddrSl 1 81 82), some (75, true)⟩, 0⟩, ⟨11, ⟨some 84, .read (.ld1 83), some (75, true)⟩, 0⟩], some ((mQ 85 315 [80, 84] (noC _ 315)).g 75 true)⟩, ⟨[], [⟨13, ⟨some 86, .pure (.un .not 85), some (75, true)⟩, 1⟩, ⟨14, ⟨some 87, .pure (.pick 75 86 (.c (.b false))), none⟩, 1⟩], none⟩]) (.cond 87 (.seq (.reg [mM 88 0, mM 89 1, mM 90 2, mM 91 11, mQ 92 316 [88, 89, 90, 91] (noC _ 316), mM 13 92]) (.seq (.reg [mM 93 13, mM 1 93]) (.exit 1))) .skip)) (.join [0, 1, 2, 3, 10, 14, 15] [] (.reg [mM 95 0, mM 96 1, mM 97 2, mM 98 11, mQ 99 317 [95, 96, 97, 98] (noC _ 317), mM 94 99, mU 100 (.extract 0 94), mU 101 (.extract 1 94), mM 14 100, mM 15 101]) (.seq (.reg [mM 102 15, mM 9 102]) (.seq (.reg [mM 103 14, mM 104 1, mB .sub 105 103 104, mM 106 2, mM 107 14, mB .sub 108 106 107, mM 16 105, mM 17 108]) (.seq (.reg [mM 109 10, mB .quo 110 109 (.c 8), mM 18 110]) (.seq (.reg [mM 111 16, mM 112 17, mB .lss 113 111 112]) (.cond 113 (.seq (.reg [mM 114 16, mM 115 18, mB .geq 116 114 115, mM 8 116]) (.seq (.reg [mM 117 0, mM 118 1, mM 119 14, mM 120 3, mQ 121 242 [117, 118, 119, 120] (noC _ 242)]) (.reg [mM 122 14, mB .add 123 122 (.c 1), mM 1 123]))) (.seq (.reg [mM 124 17, mM 125 18, mB .geq 126 124 125, mM 8 126]) (.seq (.reg [mM 127 0, mM 128 14, mB .add 129 128 (.c 1), mM 130 2, mM 131 3, mQ 132 242 [127, 129, 130, 131] (noC _ 242)]) (.reg [mM 133 14, mM 2 133])))))))))))))))))))))
def r242 : List ARes := []
theorem k242 (c309 : T 309) : compFn Tryz.prog 242 = some ⟨134, (s242 c309).er, r242⟩ := by kernel_rfl
abbrev q242 (O : Ops Tryz.prog) (c309 : T 309) := curF 4 (sfn O (s242 c309) r242)
def g242 : { g // g = q242 } := by
  have h : q242 = q242 := rfl
  conv at h => rhs; reduce
  exact ⟨_, h.symm⟩
def C242 : T 242 := mkRun 4 (k242 C309) (by decide) (g242.1 (theOps Tryz.prog) C309) (by rw [g242.2])
/- 318: math/bits.Len32 -/
def s318 : S := .seq (.reg [mK 2 0]) (.join [0, 2] [] (.seq (.reg [mM 3 0, mB .geq 4 3 (.c (.i .u32 65536))]) (.cond 4 (.seq (.reg [mM 5 0, mB .shr 6 5 (.c (.i .u64 16)), mM 0 6]) (.reg [mK 2 16])) .skip)) (.join [0, 2] [] (.seq (.reg [mM 7 0, mB .geq 8 7 (.c (.i .u32 256))]) (.cond 8 (.seq (.reg [mM 9 0, mB .shr 10 9 (.c (.i .u64 8)), mM 0 10]) (.reg [mM 11 2, mB .add 12 11 (.c 8), mM 2 12])) .skip)) (.seq (.reg [mM 13 2, mM 14 0, mU 15 (.conv .u8 14), mU 16 (.idxStr (.c (.s [0, 1, 2, 2, 3, 3, 3, 3, 4, 4, 4, 4, 4, 4, 4, 4, 5, 5, 5, 5, 5, 5, 5, 5, 5, 5, 5, 5, 5, 5, 5, 5, 6, 6, 6, 6, 6, 6, 6, 6, 6, 6, 6, 6, 6, 6, 6, 6, 6, 6, 6, 6, 6, 6, 6, 6, 6, 6, 6, 6, 6, 6, 6, 6, 7, 7, 7, 7, 7, 7, 7, 7, 7, 7, 7, 7, 7, 7, 7, 7, 7, 7, 7, 7, 7, 7, 7, 7, 7, 7, 7, 7, 7, 7, 7, 7, 7, 7, 7, 7, 7, 7, 7, 7, 7, 7, 7, 7, 7, 7, 7, 7, 7, 7, 7, 7, 7, 7, 7, 7, 7, 7, 7, 7, 7, 7, 7, 7, 8, 8, 8, 8, 8, 8, 8, 8, 8, 8, 8, 8, 8, 8, 8, 8, 8, 8, 8, 8, 8, 8, 8, 8, 8, 8, 8, 8, 8, 8, 8, 8, 8, 8, 8, 8, 8, 8, 8, 8, 8, 8, 8, 8, 8, 8, 8, 8, 8, 8, 8, 8, 8, 8, 8, 8, 8, 8, 8, 8, 8, 8, 8, 8, 8, 8, 8, 8, 8, 8, 8, 8, 8, 8, 8, 8, 8, 8, 8, 8, 8, 8, 8, 8, 8, 8, 8, 8, 8, 8, 8, 8, 8, 8, 8, 8, 8, 8, 8, 8, 8, 8, 8, 8, 8, 8, 8, 8, 8, 8, 8, 8, 8, 8, 8, 8, 8, 8, 8, 8, 8, 8, 8, 8, 8, 8, 8, 8])) 15), mU 17 (.conv .i64 16), mB .add 18 13 17, mM 2 18]) .ret)))
def r318 : List ARes := [.t 2]
theorem k318 : compFn Tryz.prog 318 = some ⟨19, (s318).er, r318⟩ := by kernel_rfl
abbrev q318 (O : Ops Tryz.prog) := curF 1 (sfn O (s318) r318)
def g318 : { g // g = q318 } := by
  have h : q318 = q318 := rfl
  conv at h => rhs; reduce
  exact ⟨_, h.symm⟩
def C318 : T 318 := mkRun 1 (k318) (by decide) (g318.1 (theOps Tryz.prog)) (by rw [g318.2])
/- 319: math/bits.Len64 -/
def s319 : S := .seq (.reg [mK 2 0]) (.join [0, 2] [] (.seq (.reg [mM 3 0, mB .geq 4 3 (.c (.i .u64 4294967296))]) (.cond 4 (.seq (.reg [mM 5 0, mB .shr 6 5 (.c (.i .u64 32)), mM 0 6]) (.reg [mK 2 32])) .skip)) (.join [0, 2] [] (.seq (.reg [mM 7 0, mB .geq 8 7 (.c (.i .u64 65536))]) (.cond 8 (.seq (.reg [mM 9 0, mB .shr 10 9 (.c (.i .u64 16)), mM 0 10]) (.reg [mM 11 2, mB .add 12 11 (.c 16), mM 2 12])) .skip)) (.join [0, 2] [] (.seq (.reg [mM 13 0, mB .geq 14 13 (.c (.i .u64 256))]) (.cond 14 (.seq (.reg [mM 15 0, mB .shr 16 15 (.c (.i .u64 8)), mM 0 16]) (.reg [mM 17 2, mB .add 18 17 (.c 8), mM 2 18])) .skip)) (.seq (.reg [mM 19 2, mM 20 0, mU 21 (.conv .u8 20), mU 22 (.idxStr (.c (.s [0, 1, 2, 2, 3, 3, 3, 3, 4, 4, 4, 4, 4, 4, 4, 4, 5, 5, 5, 5, 5, 5, 5, 5, 5, 5, 5, 5, 5, 5, 5, 5, 6, 6, 6, 6, 6, 6, 6, 6, 6, 6, 6, 6, 6, 6, 6, 6, 6, 6, 6, 6, 6, 6, 6, 6, 6, 6, 6, 6, 6, 6, 6, 6, 7, 7, 7, 7, 7, 7, 7, 7, 7, 7, 7, 7, 7, 7, 7, 7, 7, 7, 7, 7, 7, 7, 7, 7, 7, 7, 7, 7, 7, 7, 7, 7, 7, 7, 7, 7, 7, 7, 7, 7, 7, 7, 7, 7, 7, 7, 7, 7, 7, 7, 7, 7, 7, 7, 7, 7, 7, 7, 7, 7, 7, 7, 7, 7, 8, 8, 8, 8, 8, 8, 8, 8, 8, 8, 8, 8, 8, 8, 8, 8, 8, 8, 8, 8, 8, 8, 8, 8, 8, 8, 8, 8, 8, 8, 8, 8, 8, 8, 8, 8, 8, 8, 8, 8, 8, 8, 8, 8, 8, 8, 8, 8, 8, 8, 8, 8, 8, 8, 8, 8, 8, 8, 8, 8, 8, 8, 8, 8, 8, 8, 8, 8, 8, 8, 8, 8, 8, 8, 8, 8, 8, 8, 8, 8, 8, 8, 8, 8, 8, 8, 8, 8, 8, 8, 8, 8, 8, 8, 8, 8, 8, 8, 8, 8, 8, 8, 8, 8, 8, 8, 8, 8, 8, 8, 8, 8, 8, 8, 8, 8, 8, 8, 8, 8, 8, 8, 8, 8, 8, 8, 8, 8])) 21), mU 23 (.conv .i64 22), mB .add 24 19 23, mM 2 24]) .ret))))
def r319 : List ARes := [.t 2]
theorem k319 : compFn Tryz.prog 319 = some ⟨25, (s319).er, r319⟩ := by kernel_rfl
abbrev q319 (O : Ops Tryz.prog) := curF 1 (sfn O (s319) r319)
def g319 : { g // g = q319 } := by
  have h : q319 = q319 := rfl
  conv at h => rhs; reduce
  exact ⟨_, h.symm⟩
def C319 : T 319 := mkRun 1 (k319) (by decide) (g319.1 (theOps Tryz.prog)) (by rw [g319.2])
/- 243: math/bits.Len -/
def s243 (c318 : T 318) (c319 : T 319) : S := .seq (.reg [mK 2 0]) (.seq (.cond (.c (.b false)) (.seq (.reg [mM 3 0, mU 4 (.conv .u32 3), mQ 5 318 [4] c318, mM 2 5]) .ret) .skip) (.seq (.reg [mM 6 0, mQ 7 319 [6] c319, mM 2 7]) .ret))
def r243 : List ARes := [.t 2]
theorem k243 (c318 : T 318) (c319 : T 319) : compFn Tryz.prog 243 = some ⟨8, (s243 c318 c319).er, r243⟩ := by kernel_rfl
abbrev q243 (O : Ops Tryz.prog) (c318 : T 318) (c319 : T 319) := curF 1 (sfn O (s243 c318 c319) r243)
def g243 : { g // g = q243 } := by
  have h : q243 = q243 := rfl
  conv at h => rhs; reduce
  exact ⟨_, h.symm⟩
def C243 : T 243 := mkRun 1 (k243 C318 C319) (by decide) (g243.1 (theOps Tryz.prog) C318 C319) (by rw [g243.2])
/- 160: slices.Sort[[]int,int] -/
def s160 (c242 : T 242) (c243 : T 243) : S := .seq (.reg [mM 3 0, mU 4 (.lenSl 3), mM 2 4]) (.reg [mM 5 0, mM 6 2, mM 7 2, mU 8 (.conv .u64 7), mQ 9 243 [8] c243, mQ 10 242 [5, .c 0, 6, 9] c242])
def r160 : List ARes := []
theorem k160 (c242 : T 242) (c243 : T 243) : compFn Tryz.prog 160 = some ⟨11, (s160 c242 c243).er, r160⟩ := by kernel_rfl
abbrev q160 (O : Ops Tryz.prog) (c242 : T 242) (c243 : T 243) := curF 1 (sfn O (s160 c242 c243) r160)
def g160 : { g // g = q160 } := by
  have h : q160 = q160 := rfl
  conv at h => rhs; reduce
  exact ⟨_, h.symm⟩
def C160 : T 160 := mkRun 1 (k160 C242 C243) (by decide) (g160.1 (theOps Tryz.prog) C242 C243) (by rw [g160.2])
def C161 : T 161 := runChild
/- 97: (*rampart/auto.Auto).row -/
def s97 (c158 : T 158) (c159 : T 159) (c160 : T 160) (c161 : T 161) : S := .seq (.reg [mK 6 (.sl 0 none 0 0)]) (.join [0, 1, 2, 7] [] (.reg [mM 12 0, mU 13 (.nilCheck 12), mF 1 14 13, mL 15 14, mM 16 2, mU 17 (.idxAddrSl 1 15 16), mL 18 17, mM 7 18]) (.join [0, 1, 2, 7] [] (.seq (.reg [mM 19 2, mB .gtr 20 19 (.c 0)]) (.cond 20 (.join [0, 1, 2, 7] [] (.draw 0 [⟨[], [⟨0, ⟨some 21, .pure (.mv 0), none⟩, 0⟩, ⟨1, ⟨some 22, .pure (.nilCheck 21), none⟩, 0⟩, ⟨2, ⟨some 23, .pure (.fieldAddr 0 22), none⟩, 0⟩, ⟨3, ⟨some 24, .read (.ld1 23), none⟩, 0⟩, ⟨4, ⟨some 25, .pure (.mv 2), none⟩, 0⟩, ⟨5, ⟨some 26, .pure (.mv 0), none⟩, 0⟩, ⟨6, ⟨some 27, .pure (.nilCheck 26), none⟩, 0⟩, ⟨7, ⟨some 28, .pure (.fieldAddr 0 27), none⟩, 0⟩, ⟨8, ⟨some 29, .read (.ld1 28), none⟩, 0⟩, ⟨9, ⟨some 30, .pure (.mv 7), none⟩, 0⟩, ⟨10, ⟨some 31, .pure (.idxAddrSl 256 29 30), none⟩, 0⟩, ⟨11, ⟨some 32, .read (.ldN 256 31), none⟩, 0⟩, ⟨12, ⟨some 33, .pure (.idxAddrSl 256 24 25), none⟩, 0⟩], some (mZ (.st 256 33 32))⟩, ⟨[], [], none⟩]) (.seq (.draw 0 [⟨[], [⟨0, ⟨some 34, .pure (.mv 0), none⟩, 3⟩, ⟨1, ⟨some 35, .pure (.nilCheck 34), none⟩, 3⟩, ⟨2, ⟨some 36, .pure (.fieldAddr 2 35), none⟩, 3⟩, ⟨3, ⟨some 37, .read (.ld1 36), none⟩, 3⟩, ⟨4, ⟨some 38, .pure (.mv 2), none⟩, 3⟩, ⟨5, ⟨some 39, .pure (.mv 0), none⟩, 0⟩, ⟨6, ⟨some 40, .pure (.nilCheck 39), none⟩, 0⟩, ⟨7, ⟨some 41, .pure (.fieldAddr 2 40), none⟩, 0⟩, ⟨8, ⟨some 42, .read (.ld1 41), none⟩, 0⟩, ⟨9, ⟨some 43, .pure (.mv 7), none⟩, 0⟩, ⟨10, ⟨some 44, .pure (.idxAddrSl 1 42 43), none⟩, 0⟩, ⟨11, ⟨some 45, .read (.ld1 44), none⟩, 0⟩, ⟨13, ⟨some 47, .pure (.mv 1), none⟩, 1⟩, ⟨14, ⟨some 48, .pure (.mv 2), none⟩, 1⟩], some (mQ 46 158 [45] c158)⟩, ⟨[⟨some 37, .read (.ld1 36), none⟩], [], some (mQ 49 159 [47, 48] c159)⟩, ⟨[⟨some 37, .read (.ld1 36), none⟩], [], some (mY 50 (.append 1 8 46 49))⟩, ⟨[⟨some 37, .read (.ld1 36), none⟩], [⟨17, ⟨some 51, .pure (.idxAddrSl 1 37 38), none⟩, 3⟩], some (mZ (.st 1 51 50))⟩, ⟨[], [], none⟩]) (.reg [mM 52 0, mU 53 (.nilCheck 52), mF 2 54 53, mL 55 54, mM 56 2, mU 57 (.idxAddrSl 1 55 56), mL 58 57, mQ 59 160 [58] c160]))) (.draw 0 [⟨[], [⟨0, ⟨some 60, .pure (.mv 0), none⟩, 1⟩, ⟨1, ⟨some 61, .pure (.nilCheck 60), none⟩, 1⟩, ⟨2, ⟨some 62, .pure (.fieldAddr 2 61), none⟩, 1⟩, ⟨3, ⟨some 63, .read (.ld1 62), none⟩, 1⟩, ⟨4, ⟨some 64, .pure (.mv 2), none⟩, 1⟩, ⟨5, ⟨some 65, .pure (.mv 1), none⟩, 0⟩, ⟨6, ⟨some 66, .pure (.mv 2), none⟩, 0⟩], some (mQ 67 159 [65, 66] c159)⟩, ⟨[⟨some 63, .read (.ld1 62), none⟩], [⟨8, ⟨some 68, .pure (.idxAddrSl 1 63 64), none⟩, 1⟩], some (mZ (.st 1 68 67))⟩, ⟨[], [], none⟩]))) (.seq (.reg [mK 8 (.sl 0 none 0 0)]) (.seq (.seq (.reg [mK 69 0]) (.block 0 (.loop [8, 69] [0, 1, 2, 7] (.seq (.reg [mB .lss 70 69 (.c 256)]) (.seq (.cond 70 .skip (.exit 0)) (.join [0, 1, 2, 7, 8, 69] [] (.block 1 (.seq (.reg [mM 71 69, mM 9 71]) (.join [0, 1, 2, 7, 8, 9, 10, 11, 69] [] (.reg [mM 73 1, mM 74 2, mM 75 9, mU 76 (.conv .u8 75), mQ 77 161 [73, 74, 76] c161, mM 72 77, mU 78 (.extract 0 72), mU 79 (.extract 1 72), mM 10 78, mM 11 79]) (.seq (.seq (.reg [mM 80 11, mU 81 (.un .not 80)]) (.cond 81 (.exit 1) .skip)) (.join [0, 1, 2, 7, 8, 9, 10, 69] [] (.seq (.reg [mM 82 2, mB .gtr 83 82 (.c 0)]) (.cond 83 (.draw 0 [⟨[], [⟨0, ⟨some 84, .pure (.mv 0), none⟩, 0⟩, ⟨1, ⟨some 85, .pure (.nilCheck 84), none⟩, 0⟩, ⟨2, ⟨some 86, .pure (.fieldAddr 1 85), none⟩, 0⟩, ⟨3, ⟨some 87, .read (.ld1 86), none⟩, 0⟩, ⟨4, ⟨some 88, .pure (.mv 10), none⟩, 0⟩, ⟨5, ⟨some 89, .pure (.mv 0), none⟩, 0⟩, ⟨6, ⟨some 90, .pure (.nilCheck 89), none⟩, 0⟩, ⟨7, ⟨some 91, .pure (.fieldAddr 0 90), none⟩, 0⟩, ⟨8, ⟨some 92, .read (.ld1 91), none⟩, 0⟩, ⟨9, ⟨some 93, .pure (.mv 7), none⟩, 0⟩, ⟨10, ⟨some 94, .pure (.mv 9), none⟩, 0⟩, ⟨11, ⟨some 95, .pure (.idxAddrSl 256 92 93), none⟩, 0⟩, ⟨12, ⟨some 96, .pure (.idxAddrArr 256 1 95 94), none⟩, 0⟩, ⟨13, ⟨some 97, .read (.ld1 96), none⟩, 0⟩, ⟨14, ⟨some 98, .pure (.conv .i64 97), none⟩, 0⟩, ⟨15, ⟨some 99, .pure (.idxAddrSl 1 87 88), none⟩, 0⟩], some (mZ (.st 1 99 98))⟩, ⟨[], [], none⟩]) .skip)) (.seq (.reg [mM 100 0, mU 101 (.nilCheck 100), mF 0 102 101, mL 103 102, mM 104 2, mM 105 9, mM 106 10, mU 107 (.conv .u16 106), mU 108 (.idxAddrSl 256 103 104), mU 109 (.idxAddrArr 256 1 108 105), mZ (.st 1 109 107)]) (.reg [mM 110 8, mM 111 10, mN 112 (.bslice 1 1 [0] [(0, (1, 111))]), mY 113 (.append 1 8 110 112), mM 8 113]))))))) (.reg [mB .add 114 69 (.c 1), mM 69 114]))))))) (.seq (.reg [mM 115 8, mM 6 115]) .ret)))))
def r97 : List ARes := [.t 6]
theorem k97 (c158 : T 158) (c159 : T 159) (c160 : T 160) (c161 : T 161) : compFn Tryz.prog 97 = some ⟨116, (s97 c158 c159 c160 c161).er, r97⟩ := by kernel_rfl
abbrev q97 (O : Ops Tryz.prog) (c158 : T 158) (c159 : T 159) (c160 : T 160) (c161 : T 161) := curF 3 (sfn O (s97 c158 c159 c160 c161) r97)
def g97 : { g // g = q97 } := by
  have h : q97 = q97 := rfl
  conv at h => rhs; reduce
  exact ⟨_, h.symm⟩
def C97 : T 97 := mkRun 3 (k97 C158 C159 C160 C161) (by decide) (g97.1 (theOps Tryz.prog) C158 C159 C160 C161) (by rw [g97.2])
/- 46: rampart/auto.Build -/
def s46 (c94 : T 94) (c95 : T 95) (c96 : T 96) (c97 : T 97) : S := .seq (.reg [mK 4 (.p none), mK 5 0]) (.seq (.reg [mQ 15 94 [] c94, mM 6 15]) (.join [0, 1, 6] [] (.seq (.reg [mM 16 0, mU 17 (.lenSl 16), mK 18 0]) (.block 0 (.loop [18] [0, 1, 6, 16, 17] (.seq (.reg [mB .lss 19 18 17]) (.seq (.cond 19 .skip (.exit 0)) (.seq (.block 1 (.seq (.reg [mU 20 (.idxAddrSl 1 16 18), mL 21 20, mM 8 21]) (.seq (.reg [mM 22 8, mB .eql 23 22 (.c (.s [])), mM 24 23, (mM 25 8).g 24 false, (mU 26 (.lenS 25)).g 24 false, (mB .gtr 27 26 (.c 16)).g 24 false, mU 28 (.pick 24 (.c (.b true)) 27)]) (.cond 28 (.seq (.reg [mK 4 (.p none), mK 5 1]) .ret) .skip)))) (.reg [mB .add 29 18 (.c 1), mM 18 29]))))))) (.join [1, 6] [] (.seq (.reg [mM 30 0, mU 31 (.lenSl 30), mK 32 0]) (.block 2 (.loop [32] [1, 6, 30, 31] (.seq (.reg [mB .lss 33 32 31]) (.seq (.cond 33 .skip (.exit 2)) (.seq (.block 3 (.seq (.reg [mU 34 (.idxAddrSl 1 30 32), mL 35 34, mM 10 35]) (.seq (.reg [mM 36 6, mM 37 10, mQ 38 95 [36, 37] c95]) (.seq (.reg [mM 39 6, mQ 40 96 [39] c96, mM 41 1, mU 42 (.mxmn false [41, .c 4096]), mB .gtr 43 40 42]) (.cond 43 (.seq (.reg [mK 4 (.p none), mK 5 9]) .ret) .skip))))) (.reg [mB .add 44 32 (.c 1), mM 32 44]))))))) (.seq (.reg [mM 45 6, mQ 46 96 [45] c96, mM 11 46]) (.seq (.seq (.reg [mM 47 11, mM 48 1, mB .gtr 49 47 48]) (.cond 49 (.seq (.reg [mK 4 (.p none), mK 5 9]) .ret) .skip)) (.join [6, 12] [] (.draw 9 [⟨[], [⟨0, ⟨some 50, .pure (.mv 11), none⟩, 0⟩, ⟨1, ⟨some 51, .alloc (.mkslice 256 512 [.i .u16 0, .i .u16 0, .i .u16 0, .i .u16 0, .i .u16 0, .i .u16 0, .i .u16 0, .i .u16 0, .i .u16 0, .i .u16 0, .i .u16 0, .i .u16 0, .i .u16 0, .i .u16 0, .i .u16 0, .i .u16 0, .i .u16 0, .i .u16 0, .i .u16 0, .i .u16 0, .i .u16 0, .i .u16 0, .i .u16 0, .i .u16 0, .i .u16 0, .i .u16 0, .i .u16 0, .i .u16 0, .i .u16 0, .i .u16 0, .i .u16 0, .i .u16 0, .i .u16 0, .i .u16 0, .i .u16 0, .i .u16 0, .i .u16 0, .i .u16 0, .i .u16 0, .i .u16 0, .i .u16 0, .i .u16 0, .i .u16 0, .i .u16 0, .i .u16 0, .i .u16 0, .i .u16 0, .i .u16 0, .i .u16 0, .i .u16 0, .i .u16 0, .i .u16 0, .i .u16 0, .i .u16 0, .i .u16 0, .i .u16 0, .i .u16 0, .i .u16 0, .i .u16 0, .i .u16 0, .i .u16 0, .i .u16 0, .i .u16 0, .i .u16 0, .i .u16 0, .i .u16 0, .i .u16 0, .i .u16 0, .i .u16 0, .i .u16 0, .i .u16 0, .i .u16 0, .i .u16 0, .i .u16 0, .i .u16 0, .i .u16 0, .i .u16 0, .i .u16 0, .i .u16 0, .i .u16 0, .i .u16 0, .i .u16 0, .i .u16 0, .i .u16 0, .i .u16 0, .i .u16 0, .i .u16 0, .i .u16 0, .i .u16 0, .i .u16 0, .i .u16 0, .i .u16 0, .i .u16 0, .i .u16 0, .i .u16 0, .i .u16 0, .i .u16 0, .i .u16 0, .i .u16 0, .i .u16 0, .i .u16 0, .i .u16 0, .i .u16 0, .i .u16 0, .i .u16 0, .i .u16 0, .i .u16 0, .i .u16 0, .i .u16 0, .i .u16 0, .i .u16 0, .i .u16 0, .i .u16 0, .i .u16 0, .i .u16 0, .i .u16 0, .i .u16 0, .i .u16 0, .i .u16 0, .i .u16 0, .i .u16 0, .i .u16 0, .i .u16 0, .i .u16 0, .i .u16 0, .i .u16 0, .i .u16 0, .i .u16 0, .i .u16 0, .i .u16 0, .i .u16 0, .i .u16 0, .i .u16 0, .i .u16 0, .i .u16 0, .i .u16 0, .i .u16 0, .i .u16 0, .i .u16 0, .i .u16 0, .i .u16 0, .i .u16 0, .i .u16 0, .i .u16 0, .i .u16 0, .i .u16 0, .i .u16 0, .i .u16 0, .i .u16 0, .i .u16 0, .i .u16 0, .i .u16 0, .i .u16 0, .i .u16 0, .i .u16 0, .i .u16 0, .i .u16 0, .i .u16 0, .i .u16 0, .i .u16 0, .i .u16 0, .i .u16 0, .i .u16 0, .i .u16 0, .i .u16 0, .i .u16 0, .i .u16 0, .i .u16 0, .i .u16 0, .i .u16 0, .i .u16 0, .i .u16 0, .i .u16 0, .i .u16 0, .i .u16 0, .i .u16 0, .i .u16 0, .i .u16 0, .i .u16 0, .i .u16 0, .i .u16 0, .i .u16 0, .i .u16 0, .i .u16 0, .i .u16 0, .i .u16 0, .i .u16 0, .i .u16 0, .i .u16 0, .i .u16 0, .i .u16 0, .i .u16 0, .i .u16 0, .i .u16 0, .i .u16 0, .i .u16 0, .i .u16 0, .i .u16 0, .i .u16 0, .i .u16 0, .i .u16 0, .i .u16 0, .i .u16 0, .i .u16 0, .i .u16 0, .i .u16 0, .i .u16 0, .i .u16 0, .i .u16 0, .i .u16 0, .i .u16 0, .i .u16 0, .i .u16 0, .i .u16 0, .i .u16 0, .i .u16 0, .i .u16 0, .i .u16 0, .i .u16 0, .i .u16 0, .i .u16 0, .i .u16 0, .i .u16 0, .i .u16 0, .i .u16 0, .i .u16 0, .i .u16 0, .i .u16 0, .i .u16 0, .i .u16 0, .i .u16 0, .i .u16 0, .i .u16 0, .i .u16 0, .i .u16 0, .i .u16 0, .i .u16 0, .i .u16 0, .i .u16 0, .i .u16 0, .i .u16 0, .i .u16 0, .i .u16 0, .i .u16 0, .i .u16 0, .i .u16 0, .i .u16 0, .i .u16 0, .i .u16 0, .i .u16 0, .i .u16 0, .i .u16 0, .i .u16 0, .i .u16 0, .i .u16 0, .i .u16 0] 50 50), none⟩, 0⟩, ⟨2, ⟨some 52, .pure (.mv 11), none⟩, 0⟩, ⟨3, ⟨some 53, .alloc (.mkslice 1 8 [0] 52 52), none⟩, 0⟩, ⟨4, ⟨some 54, .pure (.mv 11), none⟩, 0⟩, ⟨5, ⟨some 55, .alloc (.mkslice 1 24 [.sl 0 none 0 0] 54 54), none⟩, 0⟩, ⟨6, ⟨some 56, .pure (.build [.sl 0 none 0 0, .sl 0 none 0 0, .sl 0 none 0 0] [(0, (1, 51)), (1, (1, 53)), (2, (1, 55))]), none⟩, 0⟩, ⟨7, ⟨some 57, .alloc (.box 56), none⟩, 0⟩, ⟨8, ⟨some 12, .pure (.mv 57), none⟩, 0⟩], none⟩]) (.seq (.seq (.reg [mN 58 (.bslice 1 1 [0] [(0, (1, .c 0))]), mM 13 58]) (.block 4 (.loop [13] [6, 12] (.join [6, 12, 13] [] (.seq (.reg [mM 59 13, mU 60 (.lenSl 59), mB .gtr 61 60 (.c 0)]) (.cond 61 .skip (.exit 4))) (.block 5 (.seq (.reg [mM 62 13, mU 63 (.idxAddrSl 1 62 (.c 0)), mL 64 63, mM 14 64]) (.draw 0 [⟨[], [⟨0, ⟨some 65, .pure (.mv 13), none⟩, 1⟩, ⟨1, ⟨some 66, .pure (.slSl 1 65 (some (.c 1)) none none), none⟩, 1⟩, ⟨2, ⟨some 67, .pure (.mv 12), none⟩, 0⟩, ⟨3, ⟨some 68, .pure (.mv 6), none⟩, 0⟩, ⟨4, ⟨some 69, .pure (.mv 14), none⟩, 0⟩], some (mQ 70 97 [67, 68, 69] c97)⟩, ⟨[], [], some (mY 71 (.append 1 8 66 70))⟩, ⟨[], [⟨7, ⟨some 13, .pure (.mv 71), none⟩, 2⟩], none⟩]))))))) (.seq (.reg [mM 72 12, mM 4 72, mK 5 0]) .ret))))))))
def r46 : List ARes := [.t 4, .t 5]
theorem k46 (c94 : T 94) (c95 : T 95) (c96 : T 96) (c97 : T 97) : compFn Tryz.prog 46 = some ⟨73, (s46 c94 c95 c96 c97).er, r46⟩ := by kernel_rfl
abbrev q46 (O : Ops Tryz.prog) (c94 : T 94) (c95 : T 95) (c96 : T 96) (c97 : T 97) := curF 2 (sfn O (s46 c94 c95 c96 c97) r46)
def g46 : { g // g = q46 } := by
  have h : q46 = q46 := rfl
  conv at h => rhs; reduce
  exact ⟨_, h.symm⟩
def C46 : T 46 := mkRun 2 (k46 C94 C95 C96 C97) (by decide) (g46.1 (theOps Tryz.prog) C94 C95 C96 C97) (by rw [g46.2])
/- 47: (*rampart/auto.Auto).States -/
def s47 : S := .seq (.reg [mK 2 0]) (.seq (.reg [mM 3 0, mU 4 (.nilCheck 3), mF 0 5 4, mL 6 5, mU 7 (.lenSl 6), mM 2 7]) .ret)
def r47 : List ARes := [.t 2]
theorem k47 : compFn Tryz.prog 47 = some ⟨8, (s47).er, r47⟩ := by kernel_rfl
abbrev q47 (O : Ops Tryz.prog) := curF 1 (sfn O (s47) r47)
def g47 : { g // g = q47 } := by
  have h : q47 = q47 := rfl
  conv at h => rhs; reduce
  exact ⟨_, h.symm⟩
def C47 : T 47 := mkRun 1 (k47) (by decide) (g47.1 (theOps Tryz.prog)) (by rw [g47.2])
/- 19: (*rampart/engine.Engine).Rules -/
def s19 (c44 : T 44) (c45 : T 45) (c46 : T 46) (c47 : T 47) : S := .seq (.reg [mN 4 (.newz [.sl 0 none 0 0, .sl 0 none 0 0, 0, 0])]) (.join [0, 4, 5, 6, 7] [] (.reg [mM 15 1, mQ 16 44 [15] c44, mM 14 16, mU 17 (.extract 0 14), mU 18 (.extract 1 14), mU 19 (.extract 2 14), mM 5 17, mM 6 18, mM 7 19]) (.join [0, 4, 5] [] (.seq (.reg [mM 20 7, mB .neq 21 20 (.c 0)]) (.cond 21 (.seq (.reg [mM 22 0, mU 23 (.nilCheck 22), mF 15 24 23, mF 13 25 24, mL 26 25, mB .add 27 26 (.c 1), mU 28 (.nilCheck 22), mF 15 29 28, mF 13 30 29, mZ (.st 1 30 27)]) (.seq (.reg [mM 31 7, mM 32 6, mU 33 (.build [.sl 0 none 0 0, .sl 0 none 0 0, 0, 0] [(2, (1, 31)), (3, (1, 32))]), mZ (.st 4 4 33)]) .ret)) .skip)) (.seq (.reg [mK 8 (.sl 0 none 0 0)]) (.join [0, 4, 5, 8] [] (.seq (.reg [mM 34 5, mU 35 (.lenSl 34), mK 36 0]) (.block 0 (.loop [8, 36] [0, 4, 5, 34, 35] (.seq (.reg [mB .lss 37 36 35]) (.seq (.cond 37 .skip (.exit 0)) (.seq (.block 1 (.join [0, 4, 5, 8, 10, 34, 35, 36] [] (.reg [mU 38 (.idxAddrSl 15 34 36), mR 39 (.ldN 15 38), mN 10 (.newz [0, 0, .b false, .sl 0 none 0 0, .b false, .sl 0 none 0 0, .b false, .sl 0 none 0 0, .b false, .sl 0 none 0 0, .b false, 0, .sl 0 none 0 0, 0, 0]), mZ (.st 15 10 39)]) (.join [0, 4, 5, 8, 34, 35, 36, 41, 42, 43] [] (.reg [mF 12 40 10, mL 41 40, mU 42 (.lenSl 41), mK 43 0]) (.block 2 (.loop [8, 43] [0, 4, 5, 34, 35, 36, 41, 42] (.seq (.reg [mB .lss 44 43 42]) (.seq (.cond 44 .skip (.exit 2)) (.seq (.block 3 (.seq (.reg [mU 45 (.idxAddrSl 8 41 43), mR 46 (.ldN 8 45), mN 12 (.newz [.s [], .b false, .b false, 0, 0, .b false, 0, 0]), mZ (.st 8 12 46)]) (.reg [mM 47 8, mF 0 48 12, mL 49 48, mQ 50 45 [49] c45, mN 51 (.bslice 1 1 [.s []] [(0, (1, 50))]), mY 52 (.append 1 16 47 51), mM 8 52]))) (.reg [mB .add 53 43 (.c 1), mM 43 53]))))))))) (.reg [mB .add 54 36 (.c 1), mM 36 54]))))))) (.join [0, 4, 5, 7, 13] [] (.reg [mM 56 8, mM 57 0, mU 58 (.nilCheck 57), mF 0 59 58, mF 5 60 59, mL 61 60, mQ 62 46 [56, 61] c46, mM 55 62, mU 63 (.extract 0 55), mU 64 (.extract 1 55), mM 13 63, mM 7 64]) (.seq (.seq (.reg [mM 65 7, mB .neq 66 65 (.c 0)]) (.cond 66 (.seq (.reg [mM 67 0, mU 68 (.nilCheck 67), mF 15 69 68, mF 13 70 69, mL 71 70, mB .add 72 71 (.c 1), mU 73 (.nilCheck 67), mF 15 74 73, mF 13 75 74, mZ (.st 1 75 72)]) (.seq (.reg [mM 76 7, mU 77 (.build [.sl 0 none 0 0, .sl 0 none 0 0, 0, 0] [(2, (1, 76))]), mZ (.st 4 4 77)]) .ret)) .skip)) (.seq (.reg [mM 78 0, mM 79 0, mM 80 5, mM 81 13, mQ 82 47 [81] c47, mU 83 (.nilCheck 78), mF 9 84 83, mZ (.st 1 84 80), mU 85 (.nilCheck 79), mF 10 86 85, mZ (.st 1 86 82)]) (.seq (.reg [mU 87 (.build [.sl 0 none 0 0, .sl 0 none 0 0, 0, 0] []), mZ (.st 4 4 87)]) .ret))))))))
def r19 : List ARes := [.c true 4 4]
theorem k19 (c44 : T 44) (c45 : T 45) (c46 : T 46) (c47 : T 47) : compFn Tryz.prog 19 = some ⟨88, (s19 c44 c45 c46 c47).er, r19⟩ := by kernel_rfl
abbrev q19 (O : Ops Tryz.prog) (c44 : T 44) (c45 : T 45) (c46 : T 46) (c47 : T 47) := curF 2 (sfn O (s19 c44 c45 c46 c47) r19)
def g19 : { g // g = q19 } := by
  have h : q19 = q19 := rfl
  conv at h => rhs; reduce
  exact ⟨_, h.symm⟩
def C19 : T 19 := mkRun 2 (k19 C44 C45 C46 C47) (by decide) (g19.1 (theOps Tryz.prog) C44 C45 C46 C47) (by rw [g19.2])
/- 25: (*rampart/engine.Engine).Counts -/
def s25 : S := .seq (.reg [mN 2 (.newz [0, 0, 0, 0, 0, 0, 0, 0, 0, 0, 0, 0, 0, 0])]) (.seq (.reg [mM 3 0, mU 4 (.nilCheck 3), mF 15 5 4, mR 6 (.ldN 14 5), mZ (.st 14 2 6)]) .ret)
def r25 : List ARes := [.c true 14 2]
theorem k25 : compFn Tryz.prog 25 = some ⟨7, (s25).er, r25⟩ := by kernel_rfl
abbrev q25 (O : Ops Tryz.prog) := curF 1 (sfn O (s25) r25)
def g25 : { g // g = q25 } := by
  have h : q25 = q25 := rfl
  conv at h => rhs; reduce
  exact ⟨_, h.symm⟩
def C25 : T 25 := mkRun 1 (k25) (by decide) (g25.1 (theOps Tryz.prog)) (by rw [g25.2])
/- 81: (*rampart/dir.Dir).Waits -/
def s81 : S := .seq (.reg [mK 2 0]) (.seq (.reg [mM 3 0, mU 4 (.nilCheck 3), mF 4 5 4, mL 6 5, mR 7 (.lenM 6), mM 2 7]) .ret)
def r81 : List ARes := [.t 2]
theorem k81 : compFn Tryz.prog 81 = some ⟨8, (s81).er, r81⟩ := by kernel_rfl
abbrev q81 (O : Ops Tryz.prog) := curF 1 (sfn O (s81) r81)
def g81 : { g // g = q81 } := by
  have h : q81 = q81 := rfl
  conv at h => rhs; reduce
  exact ⟨_, h.symm⟩
def C81 : T 81 := mkRun 1 (k81) (by decide) (g81.1 (theOps Tryz.prog)) (by rw [g81.2])
/- 145: (*rampart/verdict.Side).live -/
def s145 : S := .seq (.reg [mN 1 (.box 0), mK 2 .nf]) (.seq (.reg [mU 3 (.mkFunc 221 [] [1]), mM 2 3]) .ret)
def r145 : List ARes := [.t 2]
theorem k145 : compFn Tryz.prog 145 = some ⟨4, (s145).er, r145⟩ := by kernel_rfl
abbrev q145 (O : Ops Tryz.prog) := curF 1 (sfn O (s145) r145)
def g145 : { g // g = q145 } := by
  have h : q145 = q145 := rfl
  conv at h => rhs; reduce
  exact ⟨_, h.symm⟩
def C145 : T 145 := mkRun 1 (k145) (by decide) (g145.1 (theOps Tryz.prog)) (by rw [g145.2])
/- 190: (*rampart/track.Track).Holds -/
def s190 : S := .seq (.reg [mK 2 (.b false)]) (.seq (.seq (.reg [mM 5 0, mU 6 (.nilCheck 5), mF 2 7 6, mL 8 7, mU 9 (.lenSl 8), mK 10 0]) (.block 0 (.loop [10] [0, 8, 9] (.seq (.reg [mB .lss 11 10 9]) (.seq (.cond 11 .skip (.exit 0)) (.seq (.block 1 (.seq (.reg [mU 12 (.idxAddrSl 1 8 10), mL 13 12, mM 4 13]) (.seq (.reg [mM 14 4, mU 15 (.nilCheck 14), mF 14 16 15, mL 17 16, mU 18 (.un .not 17)]) (.cond 18 (.seq (.reg [mK 2 (.b false)]) .ret) .skip)))) (.reg [mB .add 19 10 (.c 1), mM 10 19]))))))) (.seq (.reg [mM 20 0, mU 21 (.nilCheck 20), mF 4 22 21, mL 23 22, mU 24 (.un .not 23), mM 2 24]) .ret))
def r190 : List ARes := [.t 2]
theorem k190 : compFn Tryz.prog 190 = some ⟨25, (s190).er, r190⟩ := by kernel_rfl
abbrev q190 (O : Ops Tryz.prog) := curF 1 (sfn O (s190) r190)
def g190 : { g // g = q190 } := by
  have h : q190 = q190 := rfl
  conv at h => rhs; reduce
  exact ⟨_, h.symm⟩
def C190 : T 190 := mkRun 1 (k190) (by decide) (g190.1 (theOps Tryz.prog)) (by rw [g190.2])
/- 189: (*rampart/verdict.Side).Begin$1 -/
def s189 (c190 : T 190) : S := .seq (.reg [mK 2 (.b false)]) (.seq (.reg [mM 3 0, mU 4 (.nilCheck 3), mF 15 5 4, mL 6 5, mQ 7 190 [6] c190, mM 2 7]) .ret)
def r189 : List ARes := [.t 2]
theorem k189 (c190 : T 190) : compFn Tryz.prog 189 = some ⟨8, (s189 c190).er, r189⟩ := by kernel_rfl
abbrev q189 (O : Ops Tryz.prog) (c190 : T 190) := curF 1 (sfn O (s189 c190) r189)
def g189 : { g // g = q189 } := by
  have h : q189 = q189 := rfl
  conv at h => rhs; reduce
  exact ⟨_, h.symm⟩
def C189 : T 189 := mkRun 1 (k189 C190) (by decide) (g189.1 (theOps Tryz.prog) C190) (by rw [g189.2])
def A189 : U := ⟨189, C189⟩
/- 267: rampart/track.placed -/
def s267 : S := .seq (.reg [mN 2 (.box 0), mK 4 (.b false)]) (.seq (.reg [mF 5 5 2, mL 6 5, mM 7 6, (mM 8 1).g 7 false, (mF 0 9 2).g 7 false, (mL 10 9).g 7 false, (mU 11 (.lenS 10)).g 7 false, (mB .sub 12 8 11).g 7 false, (mF 3 13 2).g 7 false, (mL 14 13).g 7 false, (mB .geq 15 12 14).g 7 false, (mM 16 15).g 7 false, (mF 4 17 2).g 16 true, (mL 18 17).g 16 true, (mB .leq 19 18 (.c 0)).g 16 true, (mM 20 19).g 16 true, (mM 21 1).g 20 false, (mF 3 22 2).g 20 false, (mL 23 22).g 20 false, (mF 4 24 2).g 20 false, (mL 25 24).g 20 false, (mB .add 26 23 25).g 20 false, (mB .leq 27 21 26).g 20 false, (mU 28 (.pick 20 (.c (.b true)) 27)).g 16 true, (mU 29 (.pick 16 28 (.c (.b false)))).g 7 false, mU 30 (.pick 7 (.c (.b true)) 29), mM 4 30]) .ret)
def r267 : List ARes := [.t 4]
theorem k267 : compFn Tryz.prog 267 = some ⟨31, (s267).er, r267⟩ := by kernel_rfl
abbrev q267 (O : Ops Tryz.prog) := curF 2 (sfn O (s267) r267)
def g267 : { g // g = q267 } := by
  have h : q267 = q267 := rfl
  conv at h => rhs; reduce
  exact ⟨_, h.symm⟩
def C267 : T 267 := mkRun 2 (k267) (by decide) (g267.1 (theOps Tryz.prog)) (by rw [g267.2])
/- 266: (*rampart/track.Track).Step$1 -/
def s266 (c267 : T 267) : S := .seq (.reg [mK 4 (.b false)]) (.seq (.draw 0 [⟨[], [⟨0, ⟨some 5, .pure (.mv 0), none⟩, 0⟩, ⟨1, ⟨some 6, .pure (.nilCheck 5), none⟩, 0⟩, ⟨2, ⟨some 7, .pure (.fieldAddr 8 6), none⟩, 0⟩, ⟨3, ⟨some 8, .read (.ld1 7), none⟩, 0⟩, ⟨4, ⟨some 9, .read (.ld1 1), none⟩, 0⟩, ⟨5, ⟨some 10, .pure (.lenSl 9), none⟩, 0⟩, ⟨6, ⟨some 11, .pure (.bin .lss 8 10), none⟩, 0⟩, ⟨7, ⟨some 12, .pure (.mv 11), none⟩, 0⟩, ⟨8, ⟨some 13, .read (.ld1 1), some (12, true)⟩, 0⟩, ⟨9, ⟨some 14, .pure (.mv 0), some (12, true)⟩, 0⟩, ⟨10, ⟨some 15, .pure (.nilCheck 14), some (12, true)⟩, 0⟩, ⟨11, ⟨some 16, .pure (.fieldAddr 8 15), some (12, true)⟩, 0⟩, ⟨12, ⟨some 17, .read (.ld1 16), some (12, true)⟩, 0⟩, ⟨13, ⟨some 18, .pure (.idxAddrSl 1 13 17), some (12, true)⟩, 0⟩, ⟨14, ⟨some 19, .read (.ld1 18), some (12, true)⟩, 0⟩, ⟨15, ⟨some 20, .pure (.pick 12 19 (.c (.b false))), none⟩, 0⟩, ⟨16, ⟨some 21, .pure (.mv 20), none⟩, 0⟩, ⟨17, ⟨some 22, .pure (.mv 0), some (21, true)⟩, 0⟩, ⟨18, ⟨some 23, .pure (.nilCheck 22), some (21, true)⟩, 0⟩, ⟨19, ⟨some 24, .pure (.fieldAddr 0 23), some (21, true)⟩, 0⟩, ⟨20, ⟨some 25, .read (.ldN 8 24), some (21, true)⟩, 0⟩, ⟨21, ⟨some 26, .read (.ld1 2), some (21, true)⟩, 0⟩, ⟨22, ⟨some 27, .pure (.nilCheck 26), some (21, true)⟩, 0⟩, ⟨23, ⟨some 28, .pure (.fieldAddr 1 27), some (21, true)⟩, 0⟩, ⟨24, ⟨some 29, .read (.ld1 28), some (21, true)⟩, 0⟩], some ((mQ 30 267 [25, 29] c267).g 21 true)⟩, ⟨[], [⟨26, ⟨some 31, .pure (.pick 21 30 (.c (.b false))), none⟩, 1⟩, ⟨27, ⟨some 4, .pure (.mv 31), none⟩, 1⟩], none⟩]) .ret)
def r266 : List ARes := [.t 4]
theorem k266 (c267 : T 267) : compFn Tryz.prog 266 = some ⟨32, (s266 c267).er, r266⟩ := by kernel_rfl
abbrev q266 (O : Ops Tryz.prog) (c267 : T 267) := curF 3 (sfn O (s266 c267) r266)
def g266 : { g // g = q266 } := by
  have h : q266 = q266 := rfl
  conv at h => rhs; reduce
  exact ⟨_, h.symm⟩
def C266 : T 266 := mkRun 3 (k266 C267) (by decide) (g266.1 (theOps Tryz.prog) C267) (by rw [g266.2])
def A266 : U := ⟨266, C266⟩
/- 324: rampart/track.follows -/
def s324 : S := .seq (.reg [mN 3 (.box 0), mK 6 (.b false)]) (.join [1, 3, 7] [] (.reg [mM 8 2, mF 6 9 3, mL 10 9, mB .add 11 8 10, mM 7 11]) (.seq (.reg [mM 12 1, mF 0 13 3, mL 14 13, mU 15 (.lenS 14), mB .sub 16 12 15, mM 17 7, mB .geq 18 16 17, mM 19 18, (mF 7 20 3).g 19 true, (mL 21 20).g 19 true, (mB .leq 22 21 (.c 0)).g 19 true, (mM 23 22).g 19 true, (mM 24 1).g 23 false, (mM 25 7).g 23 false, (mF 7 26 3).g 23 false, (mL 27 26).g 23 false, (mB .add 28 25 27).g 23 false, (mB .leq 29 24 28).g 23 false, (mU 30 (.pick 23 (.c (.b true)) 29)).g 19 true, mU 31 (.pick 19 30 (.c (.b false))), mM 6 31]) .ret))
def r324 : List ARes := [.t 6]
theorem k324 : compFn Tryz.prog 324 = some ⟨32, (s324).er, r324⟩ := by kernel_rfl
abbrev q324 (O : Ops Tryz.prog) := curF 3 (sfn O (s324) r324)
def g324 : { g // g = q324 } := by
  have h : q324 = q324 := rfl
  conv at h => rhs; reduce
  exact ⟨_, h.symm⟩
def C324 : T 324 := mkRun 3 (k324) (by decide) (g324.1 (theOps Tryz.prog)) (by rw [g324.2])
/- 268: (*rampart/track.part).after -/
def s268 (c324 : T 324) : S := .seq (.reg [mK 8 (.b false)]) (.seq (.seq (.reg [mM 10 1, mR 11 (.peq false 10 (.c (.p none)))]) (.cond 11 (.seq (.reg [mK 8 (.b false)]) .ret) .skip)) (.seq (.join [0, 2, 3, 9] [] (.reg [mM 12 1, mU 13 (.nilCheck 12), mF 12 14 13, mL 15 14, mM 9 15]) (.block 0 (.loop [9] [0, 2, 3] (.seq (.seq (.reg [mM 16 9, mR 17 (.peq true 16 (.c (.p none)))]) (.cond 17 .skip (.exit 0))) (.seq (.block 1 (.seq (.draw 0 [⟨[], [⟨0, ⟨some 22, .pure (.mv 0), none⟩, 0⟩, ⟨1, ⟨some 23, .pure (.nilCheck 22), none⟩, 0⟩, ⟨2, ⟨some 24, .pure (.fieldAddr 0 23), none⟩, 0⟩, ⟨3, ⟨some 25, .read (.ldN 8 24), none⟩, 0⟩, ⟨4, ⟨some 26, .pure (.mv 3), none⟩, 0⟩, ⟨5, ⟨some 27, .pure (.mv 9), none⟩, 0⟩, ⟨6, ⟨some 28, .pure (.nilCheck 27), none⟩, 0⟩, ⟨7, ⟨some 29, .pure (.fieldAddr 0 28), none⟩, 0⟩, ⟨8, ⟨some 30, .read (.ld1 29), none⟩, 0⟩], some (mQ 31 324 [25, 26, 30] c324)⟩, ⟨[], [], none⟩]) (.cond 31 (.seq (.reg [mK 8 (.b true)]) .ret) .skip))) (.reg [mM 18 9, mU 19 (.nilCheck 18), mF 1 20 19, mL 21 20, mM 9 21])))))) (.seq (.reg [mM 32 2, mM 33 32, (mM 34 0).g 33 true, (mU 35 (.nilCheck 34)).g 33 true, (mF 0 36 35).g 33 true, (mR 37 (.ldN 8 36)).g 33 true, (mM 38 3).g 33 true, (mM 39 3).g 33 true, (mQ 40 324 [37, 38, 39] c324).g 33 true, mU 41 (.pick 33 40 (.c (.b false))), mM 8 41]) .ret)))
def r268 : List ARes := [.t 8]
theorem k268 (c324 : T 324) : compFn Tryz.prog 268 = some ⟨42, (s268 c324).er, r268⟩ := by kernel_rfl
abbrev q268 (O : Ops Tryz.prog) (c324 : T 324) := curF 4 (sfn O (s268 c324) r268)
def g268 : { g // g = q268 } := by
  have h : q268 = q268 := rfl
  conv at h => rhs; reduce
  exact ⟨_, h.symm⟩
def C268 : T 268 := mkRun 4 (k268 C324) (by decide) (g268.1 (theOps Tryz.prog) C324) (by rw [g268.2])
/- 269: (*rampart/track.part).keep -/
def s269 : S := .join [0, 1, 2] [] (.reg [mM 7 0, mM 8 0, mU 9 (.nilCheck 8), mF 14 10 9, mL 11 10, mM 12 11, (mM 13 2).g 12 false, mU 14 (.pick 12 (.c (.b true)) 13), mU 15 (.nilCheck 7), mF 14 16 15, mZ (.st 1 16 14)]) (.join [0, 1, 2] [] (.join [0, 1, 2, 20] [] (.reg [mM 17 0, mU 18 (.nilCheck 17), mF 11 19 18, mL 20 19]) (.cond 20 (.seq (.seq (.reg [mM 21 2, mM 22 21, (mM 23 0).g 22 true, (mU 24 (.nilCheck 23)).g 22 true, (mF 12 25 24).g 22 true, (mL 26 25).g 22 true, (mR 27 (.peq false 26 (.c (.p none)))).g 22 true, mU 28 (.pick 22 27 (.c (.b false)))]) (.cond 28 (.reg [mM 29 0, mM 30 0, mM 31 1, mU 32 (.build [0, .p none] [(0, (1, 31))]), mN 33 (.box 32), mU 34 (.nilCheck 29), mF 12 35 34, mZ (.st 1 35 33), mU 36 (.nilCheck 30), mF 13 37 36, mZ (.st 1 37 (.c 1))]) .skip)) .ret) .skip)) (.join [0, 1, 2, 6] [] (.reg [mM 38 0, mU 39 (.nilCheck 38), mF 12 40 39, mM 6 40]) (.join [0, 1, 2, 6] [] (.reg [mM 41 0, mU 42 (.nilCheck 41), mF 13 43 42, mZ (.st 1 43 (.c 0))]) (.join [0, 1, 2, 6] [] (.block 0 (.loop [6] [0, 1, 2] (.join [0, 1, 2, 6] [] (.seq (.reg [mM 44 6, mU 45 (.nilCheck 44), mL 46 45, mR 47 (.peq true 46 (.c (.p none)))]) (.cond 47 .skip (.exit 0))) (.block 1 (.join [0, 1, 2, 6, 60] [] (.draw 0 [⟨[], [⟨0, ⟨some 48, .pure (.mv 6), none⟩, 0⟩, ⟨1, ⟨some 49, .pure (.nilCheck 48), none⟩, 0⟩, ⟨2, ⟨some 50, .read (.ld1 49), none⟩, 0⟩, ⟨3, ⟨some 51, .pure (.nilCheck 50), none⟩, 0⟩, ⟨4, ⟨some 52, .pure (.fieldAddr 0 51), none⟩, 0⟩, ⟨5, ⟨some 53, .read (.ld1 52), none⟩, 0⟩, ⟨6, ⟨some 54, .pure (.mv 0), none⟩, 0⟩, ⟨7, ⟨some 55, .pure (.nilCheck 54), none⟩, 0⟩, ⟨8, ⟨some 56, .pure (.fieldAddr 10 55), none⟩, 0⟩, ⟨9, ⟨some 57, .read (.ld1 56), none⟩, 0⟩, ⟨10, ⟨some 58, .pure (.bin .add 53 57), none⟩, 0⟩, ⟨11, ⟨some 59, .pure (.mv 1), none⟩, 0⟩, ⟨12, ⟨some 60, .pure (.bin .gtr 58 59), none⟩, 0⟩], none⟩]) (.cond 60 (.seq (.reg [mM 61 6, mU 62 (.nilCheck 61), mL 63 62, mU 64 (.nilCheck 63), mF 1 65 64, mM 6 65]) (.reg [mM 66 0, mU 67 (.nilCheck 66), mF 13 68 67, mL 69 68, mB .add 70 69 (.c 1), mU 71 (.nilCheck 66), mF 13 72 71, mZ (.st 1 72 70)])) (.reg [mM 73 6, mM 74 6, mU 75 (.nilCheck 74), mL 76 75, mU 77 (.nilCheck 76), mF 1 78 77, mL 79 78, mU 80 (.nilCheck 73), mZ (.st 1 80 79)]))))))) (.join [0, 1, 6, 91] [] (.reg [mM 81 2, mM 82 81, (mM 83 1).g 82 true, (mM 84 0).g 82 true, (mU 85 (.nilCheck 84)).g 82 true, (mF 10 86 85).g 82 true, (mL 87 86).g 82 true, (mB .add 88 83 87).g 82 true, (mM 89 1).g 82 true, (mB .gtr 90 88 89).g 82 true, mU 91 (.pick 82 90 (.c (.b false)))]) (.cond 91 (.seq (.reg [mM 92 6, mM 93 1, mU 94 (.build [0, .p none] [(0, (1, 93))]), mN 95 (.box 94), mU 96 (.nilCheck 92), mZ (.st 1 96 95)]) (.reg [mM 97 0, mU 98 (.nilCheck 97), mF 13 99 98, mL 100 99, mB .add 101 100 (.c 1), mU 102 (.nilCheck 97), mF 13 103 102, mZ (.st 1 103 101)])) .skip))))))
def r269 : List ARes := []
theorem k269 : compFn Tryz.prog 269 = some ⟨104, (s269).er, r269⟩ := by kernel_rfl
abbrev q269 (O : Ops Tryz.prog) := curF 3 (sfn O (s269) r269)
def g269 : { g // g = q269 } := by
  have h : q269 = q269 := rfl
  conv at h => rhs; reduce
  exact ⟨_, h.symm⟩
def C269 : T 269 := mkRun 3 (k269) (by decide) (g269.1 (theOps Tryz.prog)) (by rw [g269.2])
/- 194: (*rampart/track.Track).Step -/
def s194 (c268 : T 268) (c269 : T 269) (a266 : U) : S := .join [2, 3] [] (.reg [mN 2 (.box 0), mN 3 (.box 1), mK 4 (.b false)]) (.join [2, 3] [] (.seq (.reg [mL 12 2, mU 13 (.nilCheck 12), mF 5 14 13, mL 15 14]) (.cond 15 (.seq (.reg [mK 4 (.b true)]) .ret) .skip)) (.join [2, 3] [] (.reg [mL 16 2, mU 17 (.nilCheck 16), mF 1 18 17, mL 19 18, mB .add 20 19 (.c 1), mU 21 (.nilCheck 16), mF 1 22 21, mZ (.st 1 22 20)]) (.seq (.reg [mU 23 (.mkFunc 266 [] [3, 2]), mM 5 23]) (.join [2, 5, 6] [] (.reg [mL 24 2, mU 25 (.nilCheck 24), mF 2 26 25, mL 27 26, mU 28 (.lenSl 27), mN 29 (.mkslice 1 1 [.b false] 28 28), mM 6 29]) (.join [2, 5, 6] [] (.join [2, 5, 6, 33, 34, 35] [] (.reg [mL 30 2, mU 31 (.nilCheck 30), mF 2 32 31, mL 33 32, mU 34 (.lenSl 33), mK 35 0]) (.block 0 (.loop [35] [2, 5, 6, 33, 34] (.seq (.reg [mB .lss 36 35 34]) (.seq (.cond 36 .skip (.exit 0)) (.join [2, 5, 6, 33, 34, 35] [] (.block 1 (.join [2, 5, 6, 7, 8, 33, 34, 35] [] (.reg [mM 37 35, mU 38 (.idxAddrSl 1 33 35), mL 39 38, mM 7 37, mM 8 39]) (.join [2, 5, 6, 7, 8, 33, 34, 35] [] (.reg [mM 40 6, mM 41 7, mM 42 5, mM 43 8, mV 44 42 [43] [a266] [], mU 45 (.idxAddrSl 1 40 41), mZ (.st 1 45 44)]) (.join [2, 5, 6, 7, 8, 33, 34, 35, 56] [] (.reg [mM 46 6, mM 47 7, mU 48 (.idxAddrSl 1 46 47), mL 49 48, mM 50 49, (mM 51 8).g 50 true, (mU 52 (.nilCheck 51)).g 50 true, (mF 0 53 52).g 50 true, (mF 5 54 53).g 50 true, (mL 55 54).g 50 true, mU 56 (.pick 50 55 (.c (.b false)))]) (.cond 56 (.draw 0 [⟨[], [⟨0, ⟨some 57, .pure (.mv 6), none⟩, 1⟩, ⟨1, ⟨some 58, .pure (.mv 7), none⟩, 1⟩, ⟨2, ⟨some 59, .pure (.mv 7), none⟩, 0⟩, ⟨3, ⟨some 60, .pure (.bin .gtr 59 (.c 0)), none⟩, 0⟩, ⟨4, ⟨some 61, .pure (.mv 60), none⟩, 0⟩, ⟨5, ⟨some 62, .pure (.mv 8), some (61, true)⟩, 0⟩, ⟨6, ⟨some 63, .read (.ld1 2), some (61, true)⟩, 0⟩, ⟨7, ⟨some 64, .pure (.nilCheck 63), some (61, true)⟩, 0⟩, ⟨8, ⟨some 65, .pure (.fieldAddr 2 64), some (61, true)⟩, 0⟩, ⟨9, ⟨some 66, .read (.ld1 65), some (61, true)⟩, 0⟩, ⟨10, ⟨some 67, .pure (.mv 7), some (61, true)⟩, 0⟩, ⟨11, ⟨some 68, .pure (.bin .sub 67 (.c 1)), some (61, true)⟩, 0⟩, ⟨12, ⟨some 69, .pure (.idxAddrSl 1 66 68), some (61, true)⟩, 0⟩, ⟨13, ⟨some 70, .read (.ld1 69), some (61, true)⟩, 0⟩, ⟨14, ⟨some 71, .pure (.mv 6), some (61, true)⟩, 0⟩, ⟨15, ⟨some 72, .pure (.mv 7), some (61, true)⟩, 0⟩, ⟨16, ⟨some 73, .pure (.bin .sub 72 (.c 1)), some (61, true)⟩, 0⟩, ⟨17, ⟨some 74, .pure (.idxAddrSl 1 71 73), some (61, true)⟩, 0⟩, ⟨18, ⟨some 75, .read (.ld1 74), some (61, true)⟩, 0⟩, ⟨19, ⟨some 76, .read (.ld1 2), some (61, true)⟩, 0⟩, ⟨20, ⟨some 77, .pure (.nilCheck 76), some (61, true)⟩, 0⟩, ⟨21, ⟨some 78, .pure (.fieldAddr 1 77), some (61, true)⟩, 0⟩, ⟨22, ⟨some 79, .read (.ld1 78), some (61, true)⟩, 0⟩], some ((mQ 80 268 [62, 70, 75, 79] c268).g 61 true)⟩, ⟨[], [⟨24, ⟨some 81, .pure (.pick 61 80 (.c (.b false))), none⟩, 1⟩, ⟨25, ⟨some 82, .pure (.idxAddrSl 1 57 58), none⟩, 1⟩], some (mZ (.st 1 82 81))⟩, ⟨[], [], none⟩]) .skip))))) (.reg [mB .add 83 35 (.c 1), mM 35 83]))))))) (.join [2, 5] [] (.join [2, 5, 6, 87, 88, 89] [] (.reg [mL 84 2, mU 85 (.nilCheck 84), mF 2 86 85, mL 87 86, mU 88 (.lenSl 87), mK 89 0]) (.block 2 (.loop [89] [2, 5, 6, 87, 88] (.seq (.reg [mB .lss 90 89 88]) (.seq (.cond 90 .skip (.exit 2)) (.seq (.block 3 (.join [2, 5, 6, 9, 10, 87, 88, 89] [] (.reg [mM 91 89, mU 92 (.idxAddrSl 1 87 89), mL 93 92, mM 9 91, mM 10 93]) (.join [2, 5, 6, 10, 87, 88, 89] [] (.draw 0 [⟨[], [⟨0, ⟨some 94, .pure (.mv 10), none⟩, 0⟩, ⟨1, ⟨some 95, .read (.ld1 2), none⟩, 0⟩, ⟨2, ⟨some 96, .pure (.nilCheck 95), none⟩, 0⟩, ⟨3, ⟨some 97, .pure (.fieldAddr 1 96), none⟩, 0⟩, ⟨4, ⟨some 98, .read (.ld1 97), none⟩, 0⟩, ⟨5, ⟨some 99, .pure (.mv 6), none⟩, 0⟩, ⟨6, ⟨some 100, .pure (.mv 9), none⟩, 0⟩, ⟨7, ⟨some 101, .pure (.idxAddrSl 1 99 100), none⟩, 0⟩, ⟨8, ⟨some 102, .read (.ld1 101), none⟩, 0⟩], some (mQ 103 269 [94, 98, 102] c269)⟩, ⟨[], [], none⟩]) (.draw 0 [⟨[], [⟨0, ⟨some 104, .read (.ld1 2), none⟩, 0⟩, ⟨1, ⟨some 105, .read (.ld1 2), none⟩, 0⟩, ⟨2, ⟨some 106, .pure (.nilCheck 105), none⟩, 0⟩, ⟨3, ⟨some 107, .pure (.fieldAddr 5 106), none⟩, 0⟩, ⟨4, ⟨some 108, .read (.ld1 107), none⟩, 0⟩, ⟨5, ⟨some 109, .pure (.mv 108), none⟩, 0⟩, ⟨6, ⟨some 110, .pure (.mv 10), some (109, false)⟩, 0⟩, ⟨7, ⟨some 111, .pure (.nilCheck 110), some (109, false)⟩, 0⟩, ⟨8, ⟨some 112, .pure (.fieldAddr 13 111), some (109, false)⟩, 0⟩, ⟨9, ⟨some 113, .read (.ld1 112), some (109, false)⟩, 0⟩, ⟨10, ⟨some 114, .read (.ld1 2), some (109, false)⟩, 0⟩, ⟨11, ⟨some 115, .pure (.nilCheck 114), some (109, false)⟩, 0⟩, ⟨12, ⟨some 116, .pure (.fieldAddr 0 115), some (109, false)⟩, 0⟩, ⟨13, ⟨some 117, .read (.ld1 116), some (109, false)⟩, 0⟩, ⟨14, ⟨some 118, .pure (.bin .gtr 113 117), some (109, false)⟩, 0⟩, ⟨15, ⟨some 119, .pure (.pick 109 (.c (.b true)) 118), none⟩, 0⟩, ⟨16, ⟨some 120, .pure (.nilCheck 104), none⟩, 0⟩, ⟨17, ⟨some 121, .pure (.fieldAddr 5 120), none⟩, 0⟩], some (mZ (.st 1 121 119))⟩, ⟨[], [], none⟩])))) (.reg [mB .add 122 89 (.c 1), mM 89 122]))))))) (.seq (.join [2, 5, 127, 128] [] (.reg [mL 123 2, mU 124 (.nilCheck 123), mF 3 125 124, mL 126 125, mU 127 (.lenSl 126), mK 128 0]) (.block 4 (.loop [128] [2, 5, 127] (.seq (.reg [mB .lss 129 128 127]) (.seq (.cond 129 .skip (.exit 4)) (.seq (.block 5 (.seq (.reg [mM 130 128, mM 11 130]) (.draw 0 [⟨[], [⟨0, ⟨some 131, .read (.ld1 2), none⟩, 1⟩, ⟨1, ⟨some 132, .read (.ld1 2), none⟩, 0⟩, ⟨2, ⟨some 133, .pure (.nilCheck 132), none⟩, 0⟩, ⟨3, ⟨some 134, .pure (.fieldAddr 4 133), none⟩, 0⟩, ⟨4, ⟨some 135, .read (.ld1 134), none⟩, 0⟩, ⟨5, ⟨some 136, .pure (.mv 135), none⟩, 0⟩, ⟨6, ⟨some 137, .pure (.mv 5), some (136, false)⟩, 0⟩, ⟨7, ⟨some 138, .read (.ld1 2), some (136, false)⟩, 0⟩, ⟨8, ⟨some 139, .pure (.nilCheck 138), some (136, false)⟩, 0⟩, ⟨9, ⟨some 140, .pure (.fieldAddr 3 139), some (136, false)⟩, 0⟩, ⟨10, ⟨some 141, .read (.ld1 140), some (136, false)⟩, 0⟩, ⟨11, ⟨some 142, .pure (.mv 11), some (136, false)⟩, 0⟩, ⟨12, ⟨some 143, .pure (.idxAddrSl 15 141 142), some (136, false)⟩, 0⟩], some ((mV 144 137 [143] [a266] []).g 136 false)⟩, ⟨[⟨some 131, .read (.ld1 2), none⟩], [⟨14, ⟨some 145, .pure (.pick 136 (.c (.b true)) 144), none⟩, 1⟩, ⟨15, ⟨some 146, .pure (.nilCheck 131), none⟩, 1⟩, ⟨16, ⟨some 147, .pure (.fieldAddr 4 146), none⟩, 1⟩], some (mZ (.st 1 147 145))⟩, ⟨[], [], none⟩]))) (.reg [mB .add 148 128 (.c 1), mM 128 148]))))))) (.seq (.reg [mL 149 2, mU 150 (.nilCheck 149), mF 5 151 150, mL 152 151, mM 4 152]) .ret))))))))
def r194 : List ARes := [.t 4]
theorem k194 (c268 : T 268) (c269 : T 269) (a266 : U) : compFn Tryz.prog 194 = some ⟨153, (s194 c268 c269 a266).er, r194⟩ := by kernel_rfl
abbrev q194 (O : Ops Tryz.prog) (c268 : T 268) (c269 : T 269) (a266 : U) := curF 2 (sfn O (s194 c268 c269 a266) r194)
def g194 : { g // g = q194 } := by
  have h : q194 = q194 := rfl
  conv at h => rhs; reduce
  exact ⟨_, h.symm⟩
def C194 : T 194 := mkRun 2 (k194 C268 C269 A266) (by decide) (g194.1 (theOps Tryz.prog) C268 C269 A266) (by rw [g194.2])
/- 193: (*rampart/verdict.Side).Step$1 -/
def s193 (c190 : T 190) (c194 : T 194) : S := .seq (.reg [mK 2 (.b false)]) (.seq (.draw 0 [⟨[], [⟨0, ⟨some 3, .pure (.mv 0), none⟩, 0⟩, ⟨1, ⟨some 4, .pure (.nilCheck 3), none⟩, 0⟩, ⟨2, ⟨some 5, .pure (.fieldAddr 15 4), none⟩, 0⟩, ⟨3, ⟨some 6, .read (.ld1 5), none⟩, 0⟩, ⟨4, ⟨some 7, .pure (.mv 0), none⟩, 0⟩, ⟨5, ⟨some 8, .pure (.nilCheck 7), none⟩, 0⟩, ⟨6, ⟨some 9, .pure (.fieldAddr 16 8), none⟩, 0⟩, ⟨7, ⟨some 10, .read (.ld1 9), none⟩, 0⟩], some (mQ 11 194 [6, 10] c194)⟩, ⟨[], [], none⟩]) (.seq (.reg [mM 12 0, mU 13 (.nilCheck 12), mF 15 14 13, mL 15 14, mQ 16 190 [15] c190, mM 2 16]) .ret))
def r193 : List ARes := [.t 2]
theorem k193 (c190 : T 190) (c194 : T 194) : compFn Tryz.prog 193 = some ⟨17, (s193 c190 c194).er, r193⟩ := by kernel_rfl
abbrev q193 (O : Ops Tryz.prog) (c190 : T 190) (c194 : T 194) := curF 1 (sfn O (s193 c190 c194) r193)
def g193 : { g // g = q193 } := by
  have h : q193 = q193 := rfl
  conv at h => rhs; reduce
  exact ⟨_, h.symm⟩
def C193 : T 193 := mkRun 1 (k193 C190 C194) (by decide) (g193.1 (theOps Tryz.prog) C190 C194) (by rw [g193.2])
def A193 : U := ⟨193, C193⟩
/- 146: (*rampart/track.Track).Kept -/
def s146 : S := .seq (.reg [mK 2 (.sl 0 none 0 0)]) (.join [0, 3] [] (.reg [mM 6 0, mU 7 (.nilCheck 6), mF 2 8 7, mL 9 8, mU 10 (.lenSl 9), mN 11 (.mkslice 1 8 [0] 10 10), mM 3 11]) (.seq (.seq (.reg [mM 12 0, mU 13 (.nilCheck 12), mF 2 14 13, mL 15 14, mU 16 (.lenSl 15), mK 17 0]) (.block 0 (.loop [17] [3, 15, 16] (.seq (.reg [mB .lss 18 17 16]) (.seq (.cond 18 .skip (.exit 0)) (.seq (.block 1 (.seq (.reg [mM 19 17, mU 20 (.idxAddrSl 1 15 17), mL 21 20, mM 4 19, mM 5 21]) (.reg [mM 22 3, mM 23 4, mM 24 5, mU 25 (.nilCheck 24), mF 13 26 25, mL 27 26, mU 28 (.idxAddrSl 1 22 23), mZ (.st 1 28 27)]))) (.reg [mB .add 29 17 (.c 1), mM 17 29]))))))) (.seq (.reg [mM 30 3, mM 2 30]) .ret)))
def r146 : List ARes := [.t 2]
theorem k146 : compFn Tryz.prog 146 = some ⟨31, (s146).er, r146⟩ := by kernel_rfl
abbrev q146 (O : Ops Tryz.prog) := curF 1 (sfn O (s146) r146)
def g146 : { g // g = q146 } := by
  have h : q146 = q146 := rfl
  conv at h => rhs; reduce
  exact ⟨_, h.symm⟩
def C146 : T 146 := mkRun 1 (k146) (by decide) (g146.1 (theOps Tryz.prog)) (by rw [g146.2])
/- a round in 82: (*rampart/verdict.Side).Cands -/
def sa82_0 (c146 : T 146) : SC Tryz.prog := .reg [mM 4 9]
def sb82_0 (c146 : T 146) : SC Tryz.prog := .block 1 (.seq (.reg [mM 10 4, mU 11 (.nilCheck 10), mF 15 12 11, mL 13 12, mQ 14 146 [13] c146, mU 15 (.lenSl 14), mK 16 0]) (.block 2 (.loop [16] [3, 14, 15] (.seq (.reg [mB .lss 17 16 15]) (.seq (.cond 17 .skip (.exit 2)) (.seq (.block 3 (.seq (.reg [mU 18 (.idxAddrSl 1 14 16), mL 19 18, mM 6 19]) (.reg [mL 20 3, mM 21 6, mU 22 (.mxmn true [20, 21]), mZ (.st 1 3 22)]))) (.reg [mB .add 23 16 (.c 1), mM 16 23])))))))
theorem kl82_0 (c146 : T 146) : compLoop Tryz.prog 82 0 = some ⟨[9], (sa82_0 c146).er, (sb82_0 c146).er⟩ := by kernel_rfl
def gl82_0 : { g : Ops Tryz.prog → RunF Tryz.prog 146 → Nat → Env → FunT 1 // g = fun (O : Ops Tryz.prog) (c146 : T 146) (n : Nat) (env : Env) => curF 1 (srnd O [9] (sa82_0 c146) (sb82_0 c146) [3] n env) } := by
  have h : (fun (O : Ops Tryz.prog) (c146 : T 146) (n : Nat) (env : Env) => curF 1 (srnd O [9] (sa82_0 c146) (sb82_0 c146) [3] n env)) = (fun (O : Ops Tryz.prog) (c146 : T 146) (n : Nat) (env : Env) => curF 1 (srnd O [9] (sa82_0 c146) (sb82_0 c146) [3] n env)) := rfl
  conv at h => rhs; reduce
  exact ⟨_, h.symm⟩
def Y82_0 : YAlt Tryz.prog := mkYld 1 [3] (kl82_0 C146) rfl (gl82_0.1 (theOps Tryz.prog) C146) (fun n env => by rw [gl82_0.2])
/- 261: (*rampart/track.Track).Over -/
def s261 : S := .seq (.reg [mK 2 (.b false)]) (.seq (.reg [mM 3 0, mU 4 (.nilCheck 3), mF 5 5 4, mL 6 5, mM 2 6]) .ret)
def r261 : List ARes := [.t 2]
theorem k261 : compFn Tryz.prog 261 = some ⟨7, (s261).er, r261⟩ := by kernel_rfl
abbrev q261 (O : Ops Tryz.prog) := curF 1 (sfn O (s261) r261)
def g261 : { g // g = q261 } := by
  have h : q261 = q261 := rfl
  conv at h => rhs; reduce
  exact ⟨_, h.symm⟩
def C261 : T 261 := mkRun 1 (k261) (by decide) (g261.1 (theOps Tryz.prog)) (by rw [g261.2])
/- a round in 188: (*rampart/verdict.Side).told -/
def sa188_0 (c261 : T 261) (a189 : U) (a193 : U) : SC Tryz.prog := .reg [mM 7 10]
def sb188_0 (c261 : T 261) (a189 : U) (a193 : U) : SC Tryz.prog := .block 1 (.join [6, 7] [] (.join [2, 5, 6, 7, 13] [] (.reg [mL 11 3, mM 12 7, mV 13 11 [12] [a189, a193] []]) (.cond 13 (.join [2, 5, 6, 7] [] (.reg [mM 14 7, mU 15 (.nilCheck 14), mF 17 16 15, mZ (.st 1 16 (.c (.b true)))]) (.draw 19 [⟨[], [⟨0, ⟨some 17, .read (.ld1 5), none⟩, 0⟩, ⟨1, ⟨some 18, .pure (.mv 7), none⟩, 0⟩, ⟨2, ⟨some 19, .pure (.nilCheck 18), none⟩, 0⟩, ⟨3, ⟨some 20, .pure (.fieldAddr 0 19), none⟩, 0⟩, ⟨4, ⟨some 21, .pure (.fieldAddr 13 20), none⟩, 0⟩, ⟨5, ⟨some 22, .read (.ld1 21), none⟩, 0⟩, ⟨6, ⟨some 23, .read (.ld1 2), none⟩, 0⟩, ⟨7, ⟨some 24, .pure (.nilCheck 23), none⟩, 0⟩, ⟨8, ⟨some 25, .pure (.fieldAddr 3 24), none⟩, 0⟩, ⟨9, ⟨some 26, .read (.ld1 25), none⟩, 0⟩, ⟨10, ⟨some 27, .pure (.mv 7), none⟩, 0⟩, ⟨11, ⟨some 28, .pure (.nilCheck 27), none⟩, 0⟩, ⟨12, ⟨some 29, .pure (.fieldAddr 0 28), none⟩, 0⟩, ⟨13, ⟨some 30, .pure (.fieldAddr 0 29), none⟩, 0⟩, ⟨14, ⟨some 31, .read (.ld1 30), none⟩, 0⟩, ⟨15, ⟨some 32, .pure (.build [0, 0, 0, 0] [(0, (1, 22)), (2, (1, 26)), (3, (1, 31))]), none⟩, 0⟩, ⟨16, ⟨some 33, .alloc (.bslice 4 1 [0, 0, 0, 0] [(0, (4, 32))]), none⟩, 0⟩], some (mY 34 (.append 4 32 17 33))⟩, ⟨[], [], some (mZ (.st 1 5 34))⟩, ⟨[], [], none⟩])) .skip)) (.seq (.reg [mM 35 7, mU 36 (.nilCheck 35), mF 15 37 36, mL 38 37, mQ 39 261 [38] c261]) (.cond 39 (.reg [mM 40 7, mU 41 (.nilCheck 40), mF 17 42 41, mZ (.st 1 42 (.c (.b true))), mZ (.st 1 6 (.c (.b true)))]) .skip)))
theorem kl188_0 (c261 : T 261) (a189 : U) (a193 : U) : compLoop Tryz.prog 188 0 = some ⟨[10], (sa188_0 c261 a189 a193).er, (sb188_0 c261 a189 a193).er⟩ := by kernel_rfl
def gl188_0 : { g : Ops Tryz.prog → RunF Tryz.prog 261 → Alt Tryz.prog → Alt Tryz.prog → Nat → Env → FunT 1 // g = fun (O : Ops Tryz.prog) (c261 : T 261) (a189 : U) (a193 : U) (n : Nat) (env : Env) => curF 1 (srnd O [10] (sa188_0 c261 a189 a193) (sb188_0 c261 a189 a193) [2, 3, 5, 6] n env) } := by
  have h : (fun (O : Ops Tryz.prog) (c261 : T 261) (a189 : U) (a193 : U) (n : Nat) (env : Env) => curF 1 (srnd O [10] (sa188_0 c261 a189 a193) (sb188_0 c261 a189 a193) [2, 3, 5, 6] n env)) = (fun (O : Ops Tryz.prog) (c261 : T 261) (a189 : U) (a193 : U) (n : Nat) (env : Env) => curF 1 (srnd O [10] (sa188_0 c261 a189 a193) (sb188_0 c261 a189 a193) [2, 3, 5, 6] n env)) := rfl
  conv at h => rhs; reduce
  exact ⟨_, h.symm⟩
def Y188_0 : YAlt Tryz.prog := mkYld 1 [2, 3, 5, 6] (kl188_0 C261 A189 A193) rfl (gl188_0.1 (theOps Tryz.prog) C261 A189 A193) (fun n env => by rw [gl188_0.2])
/- 221: (*rampart/verdict.Side).live$1 -/
def s221 (a189 : U) (a193 : U) (y82_0 : YAlt Tryz.prog) (y188_0 : YAlt Tryz.prog) : S := .join [0, 8, 9, 10] [] (.reg [mL 5 1, mU 6 (.nilCheck 5), mF 2 7 6, mL 8 7, mU 9 (.lenSl 8), mK 10 0]) (.block 0 (.loop [10] [0, 8, 9] (.seq (.reg [mB .lss 11 10 9]) (.seq (.cond 11 .skip (.exit 0)) (.seq (.block 1 (.seq (.reg [mU 12 (.idxAddrSl 1 8 10), mL 13 12, mM 4 13]) (.seq (.reg [mM 14 4, mU 15 (.nilCheck 14), mF 17 16 15, mL 17 16, mU 18 (.un .not 17), mM 19 18, (mM 20 0).g 19 true, (mM 21 4).g 19 true, (mV 22 20 [21] [a189, a193] [y82_0, y188_0]).g 19 true, (mU 23 (.un .not 22)).g 19 true, mU 24 (.pick 19 23 (.c (.b false)))]) (.cond 24 .ret .skip)))) (.reg [mB .add 25 10 (.c 1), mM 10 25]))))))
def r221 : List ARes := []
theorem k221 (a189 : U) (a193 : U) (y82_0 : YAlt Tryz.prog) (y188_0 : YAlt Tryz.prog) : compFn Tryz.prog 221 = some ⟨26, (s221 a189 a193 y82_0 y188_0).er, r221⟩ := by kernel_rfl
abbrev q221 (O : Ops Tryz.prog) (a189 : U) (a193 : U) (y82_0 : YAlt Tryz.prog) (y188_0 : YAlt Tryz.prog) := curF 2 (sfn O (s221 a189 a193 y82_0 y188_0) r221)
def g221 : { g // g = q221 } := by
  have h : q221 = q221 := rfl
  conv at h => rhs; reduce
  exact ⟨_, h.symm⟩
def C221 : T 221 := mkRun 2 (k221 A189 A193 Y82_0 Y188_0) (by decide) (g221.1 (theOps Tryz.prog) A189 A193 Y82_0 Y188_0) (by rw [g221.2])
def A221 : U := ⟨221, C221⟩
/- 82: (*rampart/verdict.Side).Cands -/
def s82 (c145 : T 145) (a221 : U) : S := .seq (.reg [mK 2 0]) (.seq (.reg [mN 3 (.newz [0]), mZ (.st 1 3 (.c 0))]) (.seq (.seq (.reg [mM 7 0, mQ 8 145 [7] c145]) (.block 0 (.rangeF 8 82 0 [3] [a221]))) (.seq (.reg [mL 24 3, mM 2 24]) .ret)))
def r82 : List ARes := [.t 2]
theorem k82 (c145 : T 145) (a221 : U) : compFn Tryz.prog 82 = some ⟨25, (s82 c145 a221).er, r82⟩ := by kernel_rfl
abbrev q82 (O : Ops Tryz.prog) (c145 : T 145) (a221 : U) := curF 1 (sfn O (s82 c145 a221) r82)
def g82 : { g // g = q82 } := by
  have h : q82 = q82 := rfl
  conv at h => rhs; reduce
  exact ⟨_, h.symm⟩
def C82 : T 82 := mkRun 1 (k82 C145 A221) (by decide) (g82.1 (theOps Tryz.prog) C145 A221) (by rw [g82.2])
/- 83: (*rampart/defrag.Table).Len -/
def s83 : S := .seq (.reg [mK 2 0]) (.seq (.reg [mM 3 0, mU 4 (.nilCheck 3), mF 2 5 4, mL 6 5, mR 7 (.lenM 6), mM 2 7]) .ret)
def r83 : List ARes := [.t 2]
theorem k83 : compFn Tryz.prog 83 = some ⟨8, (s83).er, r83⟩ := by kernel_rfl
abbrev q83 (O : Ops Tryz.prog) := curF 1 (sfn O (s83) r83)
def g83 : { g // g = q83 } := by
  have h : q83 = q83 := rfl
  conv at h => rhs; reduce
  exact ⟨_, h.symm⟩
def C83 : T 83 := mkRun 1 (k83) (by decide) (g83.1 (theOps Tryz.prog)) (by rw [g83.2])
/- 37: (*rampart/engine.Engine).Sizes -/
def s37 (c81 : T 81) (c82 : T 82) (c83 : T 83) : S := .seq (.reg [mK 2 0, mK 3 0, mK 4 0, mK 5 0, mK 6 0]) (.join [0, 4, 5] [] (.join [0, 4, 5, 16] [] (.reg [mM 12 0, mU 13 (.nilCheck 12), mF 14 14 13, mL 15 14, mY 16 (.rangeM 15)]) (.block 0 (.loop [4, 5] [0, 16] (.join [0, 4, 5, 16, 18] [] (.reg [mY 17 (.nextM 16), mU 18 (.extract 0 17)]) (.seq (.cond 18 .skip (.exit 0)) (.block 1 (.join [0, 4, 5, 8, 16] [] (.reg [mY 19 (.entryM 16), mU 20 (.extract 1 19), mM 8 20]) (.seq (.reg [mK 21 0]) (.block 2 (.loop [4, 5, 21] [0, 8, 16] (.seq (.reg [mB .lss 22 21 (.c 2)]) (.seq (.cond 22 .skip (.exit 2)) (.join [0, 4, 5, 8, 16, 21] [] (.block 3 (.seq (.reg [mM 23 21, mM 9 23]) (.join [0, 4, 5, 8, 9, 16, 21] [] (.seq (.reg [mM 24 8, mM 25 9, mU 26 (.nilCheck 24), mF 8 27 26, mU 28 (.idxAddrArr 2 1 27 25), mL 29 28, mM 10 29]) (.seq (.reg [mM 30 10, mR 31 (.peq true 30 (.c (.p none)))]) (.cond 31 (.reg [mM 32 4, mM 33 10, mQ 34 81 [33] c81, mU 35 (.mxmn true [32, 34]), mM 4 35]) .skip))) (.seq (.reg [mM 36 8, mM 37 9, mU 38 (.nilCheck 36), mF 10 39 38, mU 40 (.idxAddrArr 2 1 39 37), mL 41 40, mM 11 41]) (.seq (.reg [mM 42 11, mR 43 (.peq true 42 (.c (.p none)))]) (.cond 43 (.reg [mM 44 5, mM 45 11, mQ 46 82 [45] c82, mU 47 (.mxmn true [44, 46]), mM 5 47]) .skip)))))) (.reg [mB .add 48 21 (.c 1), mM 21 48])))))))))))))) (.seq (.draw 0 [⟨[], [⟨0, ⟨some 49, .pure (.mv 0), none⟩, 0⟩, ⟨1, ⟨some 50, .pure (.nilCheck 49), none⟩, 0⟩, ⟨2, ⟨some 51, .pure (.fieldAddr 14 50), none⟩, 0⟩, ⟨3, ⟨some 52, .read (.ld1 51), none⟩, 0⟩, ⟨4, ⟨some 53, .read (.lenM 52), none⟩, 0⟩, ⟨5, ⟨some 54, .pure (.mv 0), none⟩, 0⟩, ⟨6, ⟨some 55, .pure (.nilCheck 54), none⟩, 0⟩, ⟨7, ⟨some 56, .pure (.fieldAddr 11 55), none⟩, 0⟩, ⟨8, ⟨some 57, .read (.ld1 56), none⟩, 0⟩, ⟨10, ⟨some 59, .pure (.mv 4), none⟩, 1⟩, ⟨11, ⟨some 60, .pure (.mv 5), none⟩, 1⟩, ⟨12, ⟨some 61, .pure (.mv 0), none⟩, 1⟩, ⟨13, ⟨some 62, .pure (.nilCheck 61), none⟩, 1⟩, ⟨14, ⟨some 63, .pure (.fieldAddr 10 62), none⟩, 1⟩, ⟨15, ⟨some 64, .read (.ld1 63), none⟩, 1⟩], some (mQ 58 83 [57] c83)⟩, ⟨[⟨some 64, .read (.ld1 63), none⟩], [⟨16, ⟨some 2, .pure (.mv 53), none⟩, 1⟩, ⟨17, ⟨some 3, .pure (.mv 58), none⟩, 1⟩, ⟨18, ⟨some 4, .pure (.mv 59), none⟩, 1⟩, ⟨19, ⟨some 5, .pure (.mv 60), none⟩, 1⟩, ⟨20, ⟨some 6, .pure (.mv 64), none⟩, 1⟩], none⟩]) .ret))
def r37 : List ARes := [.t 2, .t 3, .t 4, .t 5, .t 6]
theorem k37 (c81 : T 81) (c82 : T 82) (c83 : T 83) : compFn Tryz.prog 37 = some ⟨65, (s37 c81 c82 c83).er, r37⟩ := by kernel_rfl
abbrev q37 (O : Ops Tryz.prog) (c81 : T 81) (c82 : T 82) (c83 : T 83) := curF 1 (sfn O (s37 c81 c82 c83) r37)
def g37 : { g // g = q37 } := by
  have h : q37 = q37 := rfl
  conv at h => rhs; reduce
  exact ⟨_, h.symm⟩
def C37 : T 37 := mkRun 1 (k37 C81 C82 C83) (by decide) (g37.1 (theOps Tryz.prog) C81 C82 C83) (by rw [g37.2])
/- 125: rampart/rampartref01.Big -/
def s125 : S := .seq (.reg [mK 4 (.s [])]) (.seq (.reg [mK 5 (.s [])]) (.seq (.seq (.reg [mK 6 0]) (.block 0 (.loop [0, 5, 6] [1] (.seq (.seq (.reg [mM 7 6, mM 8 1, mB .lss 9 7 8, mM 10 9, (mM 11 6).g 10 true, (mB .lss 12 11 (.c 8)).g 10 true, mU 13 (.pick 10 12 (.c (.b false)))]) (.cond 13 .skip (.exit 0))) (.seq (.block 1 (.seq (.reg [mM 16 0, mU 17 (.conv .u8 16), mN 18 (.bslice 1 1 [.i .u8 0] [(0, (1, 17))]), mR 19 (.b2s 18), mM 20 5, mB .add 21 19 20, mM 5 21]) (.reg [mM 22 0, mB .shr 23 22 (.c (.i .u64 8)), mM 0 23]))) (.reg [mM 14 6, mB .add 15 14 (.c 1), mM 6 15])))))) (.seq (.reg [mM 24 5, mM 4 24]) .ret)))
def r125 : List ARes := [.t 4]
theorem k125 : compFn Tryz.prog 125 = some ⟨25, (s125).er, r125⟩ := by kernel_rfl
abbrev q125 (O : Ops Tryz.prog) := curF 2 (sfn O (s125) r125)
def g125 : { g // g = q125 } := by
  have h : q125 = q125 := rfl
  conv at h => rhs; reduce
  exact ⟨_, h.symm⟩
def C125 : T 125 := mkRun 2 (k125) (by decide) (g125.1 (theOps Tryz.prog)) (by rw [g125.2])
/- 211: rampart/rampartref01.Add -/
def s211 : S := .seq (.reg [mK 4 0]) (.seq (.reg [mM 6 0, mB .and 7 6 (.c 65535), mM 8 1, mB .and 9 8 (.c 65535), mB .add 10 7 9, mM 5 10]) (.seq (.block 0 (.loop [5] [] (.seq (.seq (.reg [mM 11 5, mB .gtr 12 11 (.c 65535)]) (.cond 12 .skip (.exit 0))) (.block 1 (.reg [mM 13 5, mB .and 14 13 (.c 65535), mM 15 5, mB .shr 16 15 (.c (.i .u64 16)), mB .add 17 14 16, mM 5 17]))))) (.seq (.reg [mM 18 5, mM 4 18]) .ret)))
def r211 : List ARes := [.t 4]
theorem k211 : compFn Tryz.prog 211 = some ⟨19, (s211).er, r211⟩ := by kernel_rfl
abbrev q211 (O : Ops Tryz.prog) := curF 2 (sfn O (s211) r211)
def g211 : { g // g = q211 } := by
  have h : q211 = q211 := rfl
  conv at h => rhs; reduce
  exact ⟨_, h.symm⟩
def C211 : T 211 := mkRun 2 (k211) (by decide) (g211.1 (theOps Tryz.prog)) (by rw [g211.2])
/- 129: rampart/rampartref01.Of -/
def s129 (c211 : T 211) : S := .seq (.reg [mK 2 0]) (.seq (.reg [mK 3 0]) (.seq (.seq (.reg [mK 4 0]) (.block 0 (.loop [3, 4] [0] (.join [0, 3, 4] [] (.seq (.reg [mM 6 4, mM 7 0, mU 8 (.lenS 7), mB .lss 9 6 8]) (.cond 9 .skip (.exit 0))) (.seq (.block 1 (.seq (.reg [mM 12 0, mM 13 4, mU 14 (.idxStr 12 13), mU 15 (.conv .i64 14), mB .shl 16 15 (.c (.i .u64 8)), mM 5 16]) (.join [0, 3, 4, 5] [] (.seq (.reg [mM 17 4, mB .add 18 17 (.c 1), mM 19 0, mU 20 (.lenS 19), mB .lss 21 18 20]) (.cond 21 (.reg [mM 22 5, mM 23 0, mM 24 4, mB .add 25 24 (.c 1), mU 26 (.idxStr 23 25), mU 27 (.conv .i64 26), mB .add 28 22 27, mM 5 28]) .skip)) (.reg [mM 29 3, mM 30 5, mQ 31 211 [29, 30] c211, mM 3 31])))) (.reg [mM 10 4, mB .add 11 10 (.c 2), mM 4 11])))))) (.seq (.reg [mM 32 3, mB .sub 33 (.c 65535) 32, mM 2 33]) .ret)))
def r129 : List ARes := [.t 2]
theorem k129 (c211 : T 211) : compFn Tryz.prog 129 = some ⟨34, (s129 c211).er, r129⟩ := by kernel_rfl
abbrev q129 (O : Ops Tryz.prog) (c211 : T 211) := curF 1 (sfn O (s129 c211) r129)
def g129 : { g // g = q129 } := by
  have h : q129 = q129 := rfl
  conv at h => rhs; reduce
  exact ⟨_, h.symm⟩
def C129 : T 129 := mkRun 1 (k129 C211) (by decide) (g129.1 (theOps Tryz.prog) C211) (by rw [g129.2])
/- 209: rampart/rampartref03.Check -/
def s209 : S := .seq (.reg [mN 1 (.box 0), mK 2 (.b false)]) (.seq (.reg [mF 0 3 1, mL 4 3, mB .geq 5 4 (.c 0), mM 6 5, (mF 0 7 1).g 6 true, (mL 8 7).g 6 true, (mB .leq 9 8 (.c 255)).g 6 true, mU 10 (.pick 6 9 (.c (.b false))), mM 11 10, (mF 5 12 1).g 11 true, (mL 13 12).g 11 true, (mB .geq 14 13 (.c 0)).g 11 true, mU 15 (.pick 11 14 (.c (.b false))), mM 16 15, (mF 5 17 1).g 16 true, (mL 18 17).g 16 true, (mB .leq 19 18 (.c 255)).g 16 true, mU 20 (.pick 16 19 (.c (.b false))), mM 21 20, (mF 6 22 1).g 21 true, (mL 23 22).g 21 true, (mB .geq 24 23 (.c 0)).g 21 true, mU 25 (.pick 21 24 (.c (.b false))), mM 26 25, (mF 6 27 1).g 26 true, (mL 28 27).g 26 true, (mB .leq 29 28 (.c 255)).g 26 true, mU 30 (.pick 26 29 (.c (.b false))), mM 31 30, (mF 1 32 1).g 31 true, (mL 33 32).g 31 true, (mB .geq 34 33 (.c 0)).g 31 true, mU 35 (.pick 31 34 (.c (.b false))), mM 36 35, (mF 1 37 1).g 36 true, (mL 38 37).g 36 true, (mB .leq 39 38 (.c 65535)).g 36 true, mU 40 (.pick 36 39 (.c (.b false))), mM 41 40, (mF 4 42 1).g 41 true, (mL 43 42).g 41 true, (mB .geq 44 43 (.c 0)).g 41 true, mU 45 (.pick 41 44 (.c (.b false))), mM 46 45, (mF 4 47 1).g 46 true, (mL 48 47).g 46 true, (mB .leq 49 48 (.c 65528)).g 46 true, mU 50 (.pick 46 49 (.c (.b false))), mM 51 50, (mF 4 52 1).g 51 true, (mL 53 52).g 51 true, (mB .rem 54 53 (.c 8)).g 51 true, (mB .eql 55 54 (.c 0)).g 51 true, mU 56 (.pick 51 55 (.c (.b false))), mM 57 56, (mF 9 58 1).g 57 true, (mL 59 58).g 57 true, (mU 60 (.lenS 59)).g 57 true, (mB .leq 61 60 (.c 40)).g 57 true, mU 62 (.pick 57 61 (.c (.b false))), mM 63 62, (mF 9 64 1).g 63 true, (mL 65 64).g 63 true, (mU 66 (.lenS 65)).g 63 true, (mB .rem 67 66 (.c 4)).g 63 true, (mB .eql 68 67 (.c 0)).g 63 true, mU 69 (.pick 63 68 (.c (.b false))), mM 2 69]) .ret)
def r209 : List ARes := [.t 2]
theorem k209 : compFn Tryz.prog 209 = some ⟨70, (s209).er, r209⟩ := by kernel_rfl
abbrev q209 (O : Ops Tryz.prog) := curF 1 (sfn O (s209) r209)
def g209 : { g // g = q209 } := by
  have h : q209 = q209 := rfl
  conv at h => rhs; reduce
  exact ⟨_, h.symm⟩
def C209 : T 209 := mkRun 1 (k209) (by decide) (g209.1 (theOps Tryz.prog)) (by rw [g209.2])
/- 127: rampart/rampartref03.Put -/
def s127 (c125 : T 125) (c129 : T 129) (c209 : T 209) : S := .seq (.reg [mN 2 (.box 0), mK 4 (.s []), mK 5 0]) (.join [1, 2] [] (.block 0 (.seq (.reg [mR 11 (.ldN 10 2), mQ 12 209 [11] c209, mU 13 (.un .not 12), mM 10 13]) (.cond 10 (.seq (.reg [mK 4 (.s []), mK 5 1]) .ret) (.seq (.reg [mM 15 1, mU 16 (.lenS 15), mB .gtr 17 16 (.c 2000), mM 14 17]) (.cond 14 (.seq (.reg [mK 4 (.s []), mK 5 5]) .ret) .skip))))) (.join [1, 2, 6] [] (.reg [mF 9 18 2, mL 19 18, mU 20 (.lenS 19), mB .add 21 (.c 20) 20, mM 6 21]) (.join [1, 2, 6, 7] [] (.reg [mF 4 22 2, mL 23 22, mB .quo 24 23 (.c 8), mM 7 24]) (.join [1, 2, 6, 7] [] (.seq (.reg [mF 3 25 2, mL 26 25]) (.cond 26 (.reg [mM 27 7, mB .add 28 27 (.c 16384), mM 7 28]) .skip)) (.join [1, 2, 6, 7] [] (.seq (.reg [mF 2 29 2, mL 30 29]) (.cond 30 (.reg [mM 31 7, mB .add 32 31 (.c 8192), mM 7 32]) .skip)) (.join [1, 2, 8] [] (.draw 0 [⟨[], [⟨0, ⟨some 33, .pure (.mv 6), none⟩, 0⟩, ⟨1, ⟨some 34, .pure (.bin .quo 33 (.c 4)), none⟩, 0⟩, ⟨2, ⟨some 35, .pure (.bin .add (.c 64) 34), none⟩, 0⟩, ⟨4, ⟨some 37, .pure (.fieldAddr 0 2), none⟩, 1⟩, ⟨5, ⟨some 38, .read (.ld1 37), none⟩, 1⟩, ⟨8, ⟨some 41, .pure (.mv 6), none⟩, 2⟩, ⟨9, ⟨some 42, .pure (.mv 1), none⟩, 2⟩, ⟨10, ⟨some 43, .pure (.lenS 42), none⟩, 2⟩, ⟨11, ⟨some 44, .pure (.bin .add 41 43), none⟩, 2⟩, ⟨14, ⟨some 47, .pure (.fieldAddr 1 2), none⟩, 3⟩, ⟨15, ⟨some 48, .read (.ld1 47), none⟩, 3⟩, ⟨18, ⟨some 51, .pure (.mv 7), none⟩, 4⟩, ⟨21, ⟨some 54, .pure (.fieldAddr 5 2), none⟩, 5⟩, ⟨22, ⟨some 55, .read (.ld1 54), none⟩, 5⟩, ⟨25, ⟨some 58, .pure (.fieldAddr 6 2), none⟩, 6⟩, ⟨26, ⟨some 59, .read (.ld1 58), none⟩, 6⟩], some (mQ 36 125 [35, .c 1] c125)⟩, ⟨[⟨some 38, .read (.ld1 37), none⟩, ⟨some 48, .read (.ld1 47), none⟩, ⟨some 55, .read (.ld1 54), none⟩, ⟨some 59, .read (.ld1 58), none⟩], [], some (mQ 39 125 [38, .c 1] c125)⟩, ⟨[⟨some 48, .read (.ld1 47), none⟩, ⟨some 55, .read (.ld1 54), none⟩, ⟨some 59, .read (.ld1 58), none⟩], [⟨7, ⟨some 40, .pure (.bin .add 36 39), none⟩, 7⟩], some (mQ 45 125 [44, .c 2] c125)⟩, ⟨[⟨some 48, .read (.ld1 47), none⟩, ⟨some 55, .read (.ld1 54), none⟩, ⟨some 59, .read (.ld1 58), none⟩], [⟨13, ⟨some 46, .pure (.bin .add 40 45), none⟩, 7⟩], some (mQ 49 125 [48, .c 2] c125)⟩, ⟨[⟨some 55, .read (.ld1 54), none⟩, ⟨some 59, .read (.ld1 58), none⟩], [⟨17, ⟨some 50, .pure (.bin .add 46 49), none⟩, 7⟩], some (mQ 52 125 [51, .c 2] c125)⟩, ⟨[⟨some 55, .read (.ld1 54), none⟩, ⟨some 59, .read (.ld1 58), none⟩], [⟨20, ⟨some 53, .pure (.bin .add 50 52), none⟩, 7⟩], some (mQ 56 125 [55, .c 1] c125)⟩, ⟨[⟨some 59, .read (.ld1 58), none⟩], [⟨24, ⟨some 57, .pure (.bin .add 53 56), none⟩, 7⟩], some (mQ 60 125 [59, .c 1] c125)⟩, ⟨[], [⟨28, ⟨some 61, .pure (.bin .add 57 60), none⟩, 7⟩, ⟨29, ⟨some 8, .pure (.mv 61), none⟩, 7⟩], none⟩]) (.seq (.draw 0 [⟨[], [⟨0, ⟨some 62, .pure (.fieldAddr 7 2), none⟩, 0⟩, ⟨1, ⟨some 63, .read (.ld1 62), none⟩, 0⟩, ⟨2, ⟨some 64, .pure (.conv .i64 63), none⟩, 0⟩, ⟨4, ⟨some 66, .pure (.fieldAddr 8 2), none⟩, 1⟩, ⟨5, ⟨some 67, .read (.ld1 66), none⟩, 1⟩, ⟨6, ⟨some 68, .pure (.conv .i64 67), none⟩, 1⟩, ⟨9, ⟨some 71, .pure (.fieldAddr 9 2), none⟩, 2⟩, ⟨10, ⟨some 72, .read (.ld1 71), none⟩, 2⟩], some (mQ 65 125 [64, .c 4] c125)⟩, ⟨[⟨some 67, .read (.ld1 66), none⟩, ⟨some 72, .read (.ld1 71), none⟩], [], some (mQ 69 125 [68, .c 4] c125)⟩, ⟨[⟨some 72, .read (.ld1 71), none⟩], [⟨8, ⟨some 70, .pure (.bin .add 65 69), none⟩, 2⟩, ⟨11, ⟨some 73, .pure (.bin .add 70 72), none⟩, 2⟩, ⟨12, ⟨some 9, .pure (.mv 73), none⟩, 2⟩], none⟩]) (.seq (.reg [mM 74 8, mM 75 8, mB .add 76 75 (.c (.s [0, 0])), mM 77 9, mB .add 78 76 77, mQ 79 129 [78] c129, mQ 80 125 [79, .c 2] c125, mB .add 81 74 80, mM 82 9, mB .add 83 81 82, mM 84 1, mB .add 85 83 84, mM 4 85, mK 5 0]) .ret))))))))
def r127 : List ARes := [.t 4, .t 5]
theorem k127 (c125 : T 125) (c129 : T 129) (c209 : T 209) : compFn Tryz.prog 127 = some ⟨86, (s127 c125 c129 c209).er, r127⟩ := by kernel_rfl
abbrev q127 (O : Ops Tryz.prog) (c125 : T 125) (c129 : T 129) (c209 : T 209) := curF 2 (sfn O (s127 c125 c129 c209) r127)
def g127 : { g // g = q127 } := by
  have h : q127 = q127 := rfl
  conv at h => rhs; reduce
  exact ⟨_, h.symm⟩
def C127 : T 127 := mkRun 2 (k127 C125 C129 C209) (by decide) (g127.1 (theOps Tryz.prog) C125 C129 C209) (by rw [g127.2])
/- 210: rampart/rampartref02.text -/
def s210 : S := .seq (.reg [mN 1 (.box 0), mK 2 (.s [])]) (.seq (.reg [mK 3 (.sl 0 none 0 0)]) (.seq (.seq (.reg [mK 4 0]) (.block 0 (.loop [3, 4] [1] (.seq (.seq (.reg [mM 5 4, mB .lss 6 5 (.c 6)]) (.cond 6 .skip (.exit 0))) (.seq (.block 1 (.reg [mM 9 3, mM 10 4, mU 11 (.idxAddrArr 6 1 1 10), mL 12 11, mN 13 (.bslice 1 1 [.i .u8 0] [(0, (1, 12))]), mY 14 (.append 1 1 9 13), mM 3 14])) (.reg [mM 7 4, mB .add 8 7 (.c 1), mM 4 8])))))) (.seq (.reg [mM 15 3, mR 16 (.b2s 15), mM 2 16]) .ret)))
def r210 : List ARes := [.t 2]
theorem k210 : compFn Tryz.prog 210 = some ⟨17, (s210).er, r210⟩ := by kernel_rfl
abbrev q210 (O : Ops Tryz.prog) := curF 1 (sfn O (s210) r210)
def g210 : { g // g = q210 } := by
  have h : q210 = q210 := rfl
  conv at h => rhs; reduce
  exact ⟨_, h.symm⟩
def C210 : T 210 := mkRun 1 (k210) (by decide) (g210.1 (theOps Tryz.prog)) (by rw [g210.2])
/- 128: rampart/rampartref02.Put -/
def s128 (c125 : T 125) (c210 : T 210) : S := .seq (.reg [mN 2 (.box 0), mK 4 (.s [])]) (.seq (.draw 0 [⟨[], [⟨0, ⟨some 5, .pure (.fieldAddr 0 2), none⟩, 0⟩, ⟨1, ⟨some 6, .read (.ldN 6 5), none⟩, 0⟩, ⟨3, ⟨some 8, .pure (.fieldAddr 6 2), none⟩, 1⟩, ⟨4, ⟨some 9, .read (.ldN 6 8), none⟩, 1⟩, ⟨7, ⟨some 12, .pure (.fieldAddr 12 2), none⟩, 2⟩, ⟨8, ⟨some 13, .read (.ld1 12), none⟩, 2⟩, ⟨11, ⟨some 16, .pure (.mv 1), none⟩, 3⟩], some (mQ 7 210 [6] c210)⟩, ⟨[⟨some 9, .read (.ldN 6 8), none⟩, ⟨some 13, .read (.ld1 12), none⟩], [], some (mQ 10 210 [9] c210)⟩, ⟨[⟨some 13, .read (.ld1 12), none⟩], [⟨6, ⟨some 11, .pure (.bin .add 7 10), none⟩, 3⟩], some (mQ 14 125 [13, .c 2] c125)⟩, ⟨[], [⟨10, ⟨some 15, .pure (.bin .add 11 14), none⟩, 3⟩, ⟨12, ⟨some 17, .pure (.bin .add 15 16), none⟩, 3⟩, ⟨13, ⟨some 4, .pure (.mv 17), none⟩, 3⟩], none⟩]) .ret)
def r128 : List ARes := [.t 4]
theorem k128 (c125 : T 125) (c210 : T 210) : compFn Tryz.prog 128 = some ⟨18, (s128 c125 c210).er, r128⟩ := by kernel_rfl
abbrev q128 (O : Ops Tryz.prog) (c125 : T 125) (c210 : T 210) := curF 2 (sfn O (s128 c125 c210) r128)
def g128 : { g // g = q128 } := by
  have h : q128 = q128 := rfl
  conv at h => rhs; reduce
  exact ⟨_, h.symm⟩
def C128 : T 128 := mkRun 2 (k128 C125 C210) (by decide) (g128.1 (theOps Tryz.prog) C125 C210) (by rw [g128.2])
/- 63: rampart/rampartref06.Datagram -/
def s63 (c127 : T 127) (c128 : T 128) : S := .seq (.reg [mN 3 (.box 0), mN 4 (.box 1), mK 6 (.s [])]) (.seq (.reg [mR 10 (.ldN 10 4), mM 11 2, mQ 12 127 [10, 11] c127, mM 9 12, mU 13 (.extract 0 9), mU 14 (.extract 1 9), mM 7 13, mM 8 14]) (.seq (.seq (.reg [mM 15 8, mB .neq 16 15 (.c 0)]) (.cond 16 (.seq (.reg [mK 6 (.s [])]) .ret) .skip)) (.seq (.reg [mR 17 (.ldN 13 3), mM 18 7, mQ 19 128 [17, 18] c128, mM 6 19]) .ret)))
def r63 : List ARes := [.t 6]
theorem k63 (c127 : T 127) (c128 : T 128) : compFn Tryz.prog 63 = some ⟨20, (s63 c127 c128).er, r63⟩ := by kernel_rfl
abbrev q63 (O : Ops Tryz.prog) (c127 : T 127) (c128 : T 128) := curF 3 (sfn O (s63 c127 c128) r63)
def g63 : { g // g = q63 } := by
  have h : q63 = q63 := rfl
  conv at h => rhs; reduce
  exact ⟨_, h.symm⟩
def C63 : T 63 := mkRun 3 (k63 C127 C128) (by decide) (g63.1 (theOps Tryz.prog) C127 C128) (by rw [g63.2])
/- 126: rampart/rampartref04.Sum -/
def s126 (c125 : T 125) (c129 : T 129) : S := .seq (.reg [mK 8 0]) (.seq (.reg [mM 9 0, mU 10 (.conv .i64 9), mQ 11 125 [10, .c 4] c125, mM 12 1, mU 13 (.conv .i64 12), mQ 14 125 [13, .c 4] c125, mB .add 15 11 14, mM 16 2, mQ 17 125 [16, .c 2] c125, mB .add 18 15 17, mM 19 3, mU 20 (.lenS 19), mQ 21 125 [20, .c 2] c125, mB .add 22 18 21, mM 23 3, mB .add 24 22 23, mQ 25 129 [24] c129, mM 8 25]) .ret)
def r126 : List ARes := [.t 8]
theorem k126 (c125 : T 125) (c129 : T 129) : compFn Tryz.prog 126 = some ⟨26, (s126 c125 c129).er, r126⟩ := by kernel_rfl
abbrev q126 (O : Ops Tryz.prog) (c125 : T 125) (c129 : T 129) := curF 4 (sfn O (s126 c125 c129) r126)
def g126 : { g // g = q126 } := by
  have h : q126 = q126 := rfl
  conv at h => rhs; reduce
  exact ⟨_, h.symm⟩
def C126 : T 126 := mkRun 4 (k126 C125 C129) (by decide) (g126.1 (theOps Tryz.prog) C125 C129) (by rw [g126.2])
/- 208: rampart/rampartref04.Check -/
def s208 : S := .seq (.reg [mN 1 (.box 0), mK 2 (.b false)]) (.seq (.reg [mF 0 3 1, mL 4 3, mB .geq 5 4 (.c 0), mM 6 5, (mF 0 7 1).g 6 true, (mL 8 7).g 6 true, (mB .leq 9 8 (.c 65535)).g 6 true, mU 10 (.pick 6 9 (.c (.b false))), mM 11 10, (mF 1 12 1).g 11 true, (mL 13 12).g 11 true, (mB .geq 14 13 (.c 0)).g 11 true, mU 15 (.pick 11 14 (.c (.b false))), mM 16 15, (mF 1 17 1).g 16 true, (mL 18 17).g 16 true, (mB .leq 19 18 (.c 65535)).g 16 true, mU 20 (.pick 16 19 (.c (.b false))), mM 21 20, (mF 5 22 1).g 21 true, (mL 23 22).g 21 true, (mB .geq 24 23 (.c 0)).g 21 true, mU 25 (.pick 21 24 (.c (.b false))), mM 26 25, (mF 5 27 1).g 26 true, (mL 28 27).g 26 true, (mB .leq 29 28 (.c 65535)).g 26 true, mU 30 (.pick 26 29 (.c (.b false))), mM 31 30, (mF 4 32 1).g 31 true, (mL 33 32).g 31 true, (mB .geq 34 33 (.c 0)).g 31 true, mU 35 (.pick 31 34 (.c (.b false))), mM 36 35, (mF 4 37 1).g 36 true, (mL 38 37).g 36 true, (mB .leq 39 38 (.c 63)).g 36 true, mU 40 (.pick 36 39 (.c (.b false))), mM 41 40, (mF 6 42 1).g 41 true, (mL 43 42).g 41 true, (mU 44 (.lenS 43)).g 41 true, (mB .leq 45 44 (.c 40)).g 41 true, mU 46 (.pick 41 45 (.c (.b false))), mM 47 46, (mF 6 48 1).g 47 true, (mL 49 48).g 47 true, (mU 50 (.lenS 49)).g 47 true, (mB .rem 51 50 (.c 4)).g 47 true, (mB .eql 52 51 (.c 0)).g 47 true, mU 53 (.pick 47 52 (.c (.b false))), mM 2 53]) .ret)
def r208 : List ARes := [.t 2]
theorem k208 : compFn Tryz.prog 208 = some ⟨54, (s208).er, r208⟩ := by kernel_rfl
abbrev q208 (O : Ops Tryz.prog) := curF 1 (sfn O (s208) r208)
def g208 : { g // g = q208 } := by
  have h : q208 = q208 := rfl
  conv at h => rhs; reduce
  exact ⟨_, h.symm⟩
def C208 : T 208 := mkRun 1 (k208) (by decide) (g208.1 (theOps Tryz.prog)) (by rw [g208.2])
/- 124: rampart/rampartref04.Put -/
def s124 (c125 : T 125) (c126 : T 126) (c208 : T 208) : S := .seq (.reg [mN 6 (.box 2), mK 8 (.s []), mK 9 0]) (.join [0, 1, 3, 6] [] (.block 0 (.seq (.reg [mR 13 (.ldN 7 6), mQ 14 208 [13] c208, mU 15 (.un .not 14), mM 12 15]) (.cond 12 (.seq (.reg [mK 8 (.s []), mK 9 1]) .ret) (.seq (.reg [mM 17 3, mU 18 (.lenS 17), mF 6 19 6, mL 20 19, mU 21 (.lenS 20), mB .sub 22 (.c 1980) 21, mB .gtr 23 18 22, mM 16 23]) (.cond 16 (.seq (.reg [mK 8 (.s []), mK 9 5]) .ret) .skip))))) (.join [0, 1, 3, 6, 10] [] (.draw 0 [⟨[], [⟨0, ⟨some 24, .pure (.fieldAddr 0 6), none⟩, 0⟩, ⟨1, ⟨some 25, .read (.ld1 24), none⟩, 0⟩, ⟨3, ⟨some 27, .pure (.fieldAddr 1 6), none⟩, 1⟩, ⟨4, ⟨some 28, .read (.ld1 27), none⟩, 1⟩, ⟨7, ⟨some 31, .pure (.fieldAddr 2 6), none⟩, 2⟩, ⟨8, ⟨some 32, .read (.ld1 31), none⟩, 2⟩, ⟨9, ⟨some 33, .pure (.conv .i64 32), none⟩, 2⟩, ⟨12, ⟨some 36, .pure (.fieldAddr 3 6), none⟩, 3⟩, ⟨13, ⟨some 37, .read (.ld1 36), none⟩, 3⟩, ⟨14, ⟨some 38, .pure (.conv .i64 37), none⟩, 3⟩, ⟨17, ⟨some 41, .pure (.fieldAddr 6 6), none⟩, 4⟩, ⟨18, ⟨some 42, .read (.ld1 41), none⟩, 4⟩, ⟨19, ⟨some 43, .pure (.lenS 42), none⟩, 4⟩, ⟨20, ⟨some 44, .pure (.bin .add (.c 20) 43), none⟩, 4⟩, ⟨21, ⟨some 45, .pure (.bin .quo 44 (.c 4)), none⟩, 4⟩, ⟨22, ⟨some 46, .pure (.bin .mul 45 (.c 16)), none⟩, 4⟩, ⟨25, ⟨some 49, .pure (.fieldAddr 4 6), none⟩, 5⟩, ⟨26, ⟨some 50, .read (.ld1 49), none⟩, 5⟩, ⟨29, ⟨some 53, .pure (.fieldAddr 5 6), none⟩, 6⟩, ⟨30, ⟨some 54, .read (.ld1 53), none⟩, 6⟩], some (mQ 26 125 [25, .c 2] c125)⟩, ⟨[⟨some 28, .read (.ld1 27), none⟩, ⟨some 32, .read (.ld1 31), none⟩, ⟨some 37, .read (.ld1 36), none⟩, ⟨some 42, .read (.ld1 41), none⟩, ⟨some 50, .read (.ld1 49), none⟩, ⟨some 54, .read (.ld1 53), none⟩], [], some (mQ 29 125 [28, .c 2] c125)⟩, ⟨[⟨some 32, .read (.ld1 31), none⟩, ⟨some 37, .read (.ld1 36), none⟩, ⟨some 42, .read (.ld1 41), none⟩, ⟨some 50, .read (.ld1 49), none⟩, ⟨some 54, .read (.ld1 53), none⟩], [⟨6, ⟨some 30, .pure (.bin .add 26 29), none⟩, 7⟩], some (mQ 34 125 [33, .c 4] c125)⟩, ⟨[⟨some 37, .read (.ld1 36), none⟩, ⟨some 42, .read (.ld1 41), none⟩, ⟨some 50, .read (.ld1 49), none⟩, ⟨some 54, .read (.ld1 53), none⟩], [⟨11, ⟨some 35, .pure (.bin .add 30 34), none⟩, 7⟩], some (mQ 39 125 [38, .c 4] c125)⟩, ⟨[⟨some 42, .read (.ld1 41), none⟩, ⟨some 50, .read (.ld1 49), none⟩, ⟨some 54, .read (.ld1 53), none⟩], [⟨16, ⟨some 40, .pure (.bin .add 35 39), none⟩, 7⟩], some (mQ 47 125 [46, .c 1] c125)⟩, ⟨[⟨some 50, .read (.ld1 49), none⟩, ⟨some 54, .read (.ld1 53), none⟩], [⟨24, ⟨some 48, .pure (.bin .add 40 47), none⟩, 7⟩], some (mQ 51 125 [50, .c 1] c125)⟩, ⟨[⟨some 54, .read (.ld1 53), none⟩], [⟨28, ⟨some 52, .pure (.bin .add 48 51), none⟩, 7⟩], some (mQ 55 125 [54, .c 2] c125)⟩, ⟨[], [⟨32, ⟨some 56, .pure (.bin .add 52 55), none⟩, 7⟩, ⟨33, ⟨some 10, .pure (.mv 56), none⟩, 7⟩], none⟩]) (.seq (.reg [mF 6 57 6, mL 58 57, mB .add 59 (.c (.s [0, 0])) 58, mM 60 3, mB .add 61 59 60, mM 11 61]) (.seq (.reg [mM 62 10, mM 63 0, mM 64 1, mM 65 10, mB .add 66 65 (.c (.s [0, 0])), mM 67 11, mB .add 68 66 67, mQ 69 126 [63, 64, .c 6, 68] c126, mQ 70 125 [69, .c 2] c125, mB .add 71 62 70, mM 72 11, mB .add 73 71 72, mM 8 73, mK 9 0]) .ret))))
def r124 : List ARes := [.t 8, .t 9]
theorem k124 (c125 : T 125) (c126 : T 126) (c208 : T 208) : compFn Tryz.prog 124 = some ⟨74, (s124 c125 c126 c208).er, r124⟩ := by kernel_rfl
abbrev q124 (O : Ops Tryz.prog) (c125 : T 125) (c126 : T 126) (c208 : T 208) := curF 4 (sfn O (s124 c125 c126 c208) r124)
def g124 : { g // g = q124 } := by
  have h : q124 = q124 := rfl
  conv at h => rhs; reduce
  exact ⟨_, h.symm⟩
def C124 : T 124 := mkRun 4 (k124 C125 C126 C208) (by decide) (g124.1 (theOps Tryz.prog) C125 C126 C208) (by rw [g124.2])
/- 58: rampart/rampartref06.Segment -/
def s58 (c63 : T 63) (c124 : T 124) : S := .join [3, 4, 5, 6] [] (.reg [mN 4 (.box 0), mN 5 (.box 1), mN 6 (.box 2), mK 8 (.s [])]) (.seq (.reg [mF 7 12 5, mL 13 12, mF 8 14 5, mL 15 14, mR 16 (.ldN 7 6), mM 17 3, mQ 18 124 [13, 15, 16, 17] c124, mM 11 18, mU 19 (.extract 0 11), mU 20 (.extract 1 11), mM 9 19, mM 10 20]) (.seq (.seq (.reg [mM 21 10, mB .neq 22 21 (.c 0)]) (.cond 22 (.seq (.reg [mK 8 (.s [])]) .ret) .skip)) (.seq (.reg [mR 23 (.ldN 13 4), mR 24 (.ldN 10 5), mM 25 9, mQ 26 63 [23, 24, 25] c63, mM 8 26]) .ret)))
def r58 : List ARes := [.t 8]
theorem k58 (c63 : T 63) (c124 : T 124) : compFn Tryz.prog 58 = some ⟨27, (s58 c63 c124).er, r58⟩ := by kernel_rfl
abbrev q58 (O : Ops Tryz.prog) (c63 : T 63) (c124 : T 124) := curF 4 (sfn O (s58 c63 c124) r58)
def g58 : { g // g = q58 } := by
  have h : q58 = q58 := rfl
  conv at h => rhs; reduce
  exact ⟨_, h.symm⟩
def C58 : T 58 := mkRun 4 (k58 C63 C124) (by decide) (g58.1 (theOps Tryz.prog) C63 C124) (by rw [g58.2])
/- 59: rampart/rampartlaw00.Eth -/
def s59 : S := .seq (.reg [mN 2 (.newz [.i .u8 0, .i .u8 0, .i .u8 0, .i .u8 0, .i .u8 0, .i .u8 0, .i .u8 0, .i .u8 0, .i .u8 0, .i .u8 0, .i .u8 0, .i .u8 0, 0])]) (.join [0, 2, 3] [] (.reg [mU 4 (.build [.i .u8 0, .i .u8 0, .i .u8 0, .i .u8 0, .i .u8 0, .i .u8 0, .i .u8 0, .i .u8 0, .i .u8 0, .i .u8 0, .i .u8 0, .i .u8 0, 0] [(12, (1, .c 2048))]), mN 3 (.newz [.i .u8 0, .i .u8 0, .i .u8 0, .i .u8 0, .i .u8 0, .i .u8 0, .i .u8 0, .i .u8 0, .i .u8 0, .i .u8 0, .i .u8 0, .i .u8 0, 0]), mZ (.st 13 3 4)]) (.seq (.reg [mM 5 0, mB .add 6 (.c 1) 5, mU 7 (.conv .u8 6), mM 8 0, mB .sub 9 (.c 2) 8, mU 10 (.conv .u8 9), mF 6 11 3, mU 12 (.idxAddrArr 6 1 11 (.c 5)), mZ (.st 1 12 7), mF 0 13 3, mU 14 (.idxAddrArr 6 1 13 (.c 5)), mZ (.st 1 14 10)]) (.seq (.reg [mR 15 (.ldN 13 3), mZ (.st 13 2 15)]) .ret)))
def r59 : List ARes := [.c true 13 2]
theorem k59 : compFn Tryz.prog 59 = some ⟨16, (s59).er, r59⟩ := by kernel_rfl
abbrev q59 (O : Ops Tryz.prog) := curF 1 (sfn O (s59) r59)
def g59 : { g // g = q59 } := by
  have h : q59 = q59 := rfl
  conv at h => rhs; reduce
  exact ⟨_, h.symm⟩
def C59 : T 59 := mkRun 1 (k59) (by decide) (g59.1 (theOps Tryz.prog)) (by rw [g59.2])
/- 60: rampart/rampartlaw00.IP -/
def s60 : S := .seq (.reg [mN 4 (.newz [0, 0, .b false, .b false, 0, 0, 0, .i .u32 0, .i .u32 0, .s []])]) (.join [0, 4, 5] [] (.reg [mM 6 1, mU 7 (.build [0, 0, .b false, .b false, 0, 0, 0, .i .u32 0, .i .u32 0, .s []] [(5, (1, .c 64)), (6, (1, 6)), (7, (1, .c (.i .u32 167772161))), (8, (1, .c (.i .u32 167772162)))]), mN 5 (.newz [0, 0, .b false, .b false, 0, 0, 0, .i .u32 0, .i .u32 0, .s []]), mZ (.st 10 5 7)]) (.join [4, 5] [] (.seq (.reg [mM 8 0, mB .eql 9 8 (.c 1)]) (.cond 9 (.reg [mF 8 10 5, mL 11 10, mF 7 12 5, mL 13 12, mF 7 14 5, mZ (.st 1 14 11), mF 8 15 5, mZ (.st 1 15 13)]) .skip)) (.seq (.reg [mR 16 (.ldN 10 5), mZ (.st 10 4 16)]) .ret)))
def r60 : List ARes := [.c true 10 4]
theorem k60 : compFn Tryz.prog 60 = some ⟨17, (s60).er, r60⟩ := by kernel_rfl
abbrev q60 (O : Ops Tryz.prog) := curF 2 (sfn O (s60) r60)
def g60 : { g // g = q60 } := by
  have h : q60 = q60 := rfl
  conv at h => rhs; reduce
  exact ⟨_, h.symm⟩
def C60 : T 60 := mkRun 2 (k60) (by decide) (g60.1 (theOps Tryz.prog)) (by rw [g60.2])
/- 22: rampart/rampartlaw00.Seg -/
def s22 (c58 : T 58) (c59 : T 59) (c60 : T 60) : S := .seq (.reg [mK 12 (.s [])]) (.join [0, 5, 13] [] (.reg [mM 14 1, mB .add 15 (.c 1000) 14, mM 16 3, mM 17 4, mM 18 2, mU 19 (.build [0, 0, .i .u32 0, .i .u32 0, 0, 0, .s []] [(0, (1, 15)), (1, (1, .c 80)), (2, (1, 16)), (3, (1, 17)), (4, (1, 18)), (5, (1, .c 1000))]), mN 13 (.newz [0, 0, .i .u32 0, .i .u32 0, 0, 0, .s []]), mZ (.st 7 13 19)]) (.join [0, 5, 13] [] (.seq (.reg [mM 20 0, mB .eql 21 20 (.c 1)]) (.cond 21 (.reg [mF 1 22 13, mL 23 22, mF 0 24 13, mL 25 24, mF 0 26 13, mZ (.st 1 26 23), mF 1 27 13, mZ (.st 1 27 25)]) .skip)) (.seq (.draw 0 [⟨[], [⟨0, ⟨some 28, .pure (.mv 0), none⟩, 0⟩, ⟨2, ⟨some 30, .pure (.mv 0), none⟩, 1⟩, ⟨4, ⟨some 32, .read (.ldN 7 13), none⟩, 2⟩, ⟨5, ⟨some 33, .pure (.mv 5), none⟩, 2⟩], some (mQ 29 59 [28] c59)⟩, ⟨[⟨some 32, .read (.ldN 7 13), none⟩], [], some (mQ 31 60 [30, .c 6] c60)⟩, ⟨[⟨some 32, .read (.ldN 7 13), none⟩], [], some (mQ 34 58 [29, 31, 32, 33] c58)⟩, ⟨[], [⟨7, ⟨some 12, .pure (.mv 34), none⟩, 3⟩], none⟩]) .ret)))
def r22 : List ARes := [.t 12]
theorem k22 (c58 : T 58) (c59 : T 59) (c60 : T 60) : compFn Tryz.prog 22 = some ⟨35, (s22 c58 c59 c60).er, r22⟩ := by kernel_rfl
abbrev q22 (O : Ops Tryz.prog) (c58 : T 58) (c59 : T 59) (c60 : T 60) := curF 6 (sfn O (s22 c58 c59 c60) r22)
def g22 : { g // g = q22 } := by
  have h : q22 = q22 := rfl
  conv at h => rhs; reduce
  exact ⟨_, h.symm⟩
def C22 : T 22 := mkRun 6 (k22 C58 C59 C60) (by decide) (g22.1 (theOps Tryz.prog) C58 C59 C60) (by rw [g22.2])
/- 20: rampart/rampartlaw00.Hello -/
def s20 (c22 : T 22) : S := .seq (.reg [mK 4 (.sl 0 none 0 0)]) (.seq (.reg [mM 5 0, mM 6 1, mQ 7 22 [.c 0, 5, .c 2, 6, .c (.i .u32 0), .c (.s [])] c22, mU 8 (.build [0, 0, .s []] [(0, (1, .c 1)), (1, (1, .c 0)), (2, (1, 7))]), mM 9 0, mM 10 1, mB .add 11 10 (.c (.i .u32 1)), mQ 12 22 [.c 1, 9, .c 18, .c (.i .u32 5000), 11, .c (.s [])] c22, mU 13 (.build [0, 0, .s []] [(0, (1, .c 1)), (1, (1, .c 1)), (2, (1, 12))]), mM 14 0, mM 15 1, mB .add 16 15 (.c (.i .u32 1)), mQ 17 22 [.c 0, 14, .c 16, 16, .c (.i .u32 5001), .c (.s [])] c22, mU 18 (.build [0, 0, .s []] [(0, (1, .c 1)), (1, (1, .c 0)), (2, (1, 17))]), mN 19 (.bslice 3 3 [0, 0, .s [], 0, 0, .s [], 0, 0, .s []] [(0, (3, 8)), (3, (3, 13)), (6, (3, 18))]), mM 4 19]) .ret)
def r20 : List ARes := [.t 4]
theorem k20 (c22 : T 22) : compFn Tryz.prog 20 = some ⟨20, (s20 c22).er, r20⟩ := by kernel_rfl
abbrev q20 (O : Ops Tryz.prog) (c22 : T 22) := curF 2 (sfn O (s20 c22) r20)
def g20 : { g // g = q20 } := by
  have h : q20 = q20 := rfl
  conv at h => rhs; reduce
  exact ⟨_, h.symm⟩
def C20 : T 20 := mkRun 2 (k20 C22) (by decide) (g20.1 (theOps Tryz.prog) C22) (by rw [g20.2])
/- 69: (*rampart/blocks.Blocks).Clear -/
def s69 : S := .seq (.reg [mK 2 0]) (.seq (.reg [mM 4 0, mU 5 (.nilCheck 4), mF 2 6 5, mL 7 6, mU 8 (.lenSl 7), mM 3 8]) (.seq (.reg [mM 9 0, mU 10 (.nilCheck 9), mF 2 11 10, mZ (.st 1 11 (.c (.sl 0 none 0 0)))]) (.seq (.reg [mM 12 3, mM 2 12]) .ret)))
def r69 : List ARes := [.t 2]
theorem k69 : compFn Tryz.prog 69 = some ⟨13, (s69).er, r69⟩ := by kernel_rfl
abbrev q69 (O : Ops Tryz.prog) := curF 1 (sfn O (s69) r69)
def g69 : { g // g = q69 } := by
  have h : q69 = q69 := rfl
  conv at h => rhs; reduce
  exact ⟨_, h.symm⟩
def C69 : T 69 := mkRun 1 (k69) (by decide) (g69.1 (theOps Tryz.prog)) (by rw [g69.2])
/- 29: (*rampart/engine.Engine).Unblock -/
def s29 (c69 : T 69) : S := .seq (.reg [mN 2 (.newz [.sl 0 none 0 0, .sl 0 none 0 0, 0, 0])]) (.seq (.reg [mM 3 0, mU 4 (.nilCheck 3), mF 13 5 4, mL 6 5, mQ 7 69 [6] c69]) (.seq (.reg [mU 8 (.build [.sl 0 none 0 0, .sl 0 none 0 0, 0, 0] []), mZ (.st 4 2 8)]) .ret))
def r29 : List ARes := [.c true 4 2]
theorem k29 (c69 : T 69) : compFn Tryz.prog 29 = some ⟨9, (s29 c69).er, r29⟩ := by kernel_rfl
abbrev q29 (O : Ops Tryz.prog) (c69 : T 69) := curF 1 (sfn O (s29 c69) r29)
def g29 : { g // g = q29 } := by
  have h : q29 = q29 := rfl
  conv at h => rhs; reduce
  exact ⟨_, h.symm⟩
def C29 : T 29 := mkRun 1 (k29 C69) (by decide) (g29.1 (theOps Tryz.prog) C69) (by rw [g29.2])
def A29 : U := ⟨29, C29⟩
/- 66: (*rampart/engine.Engine).forget -/
def s66 : S := .seq (.reg [mM 6 1, mU 7 (.lenSl 6), mK 8 0]) (.block 0 (.loop [8] [0, 6, 7] (.seq (.reg [mB .lss 9 8 7]) (.seq (.cond 9 .skip (.exit 0)) (.seq (.block 1 (.seq (.reg [mU 10 (.idxAddrSl 1 6 8), mL 11 10, mM 5 11]) (.reg [mM 12 0, mU 13 (.nilCheck 12), mF 14 14 13, mL 15 14, mM 16 5, mZ (.del (.one .i) 15 16)]))) (.reg [mB .add 17 8 (.c 1), mM 8 17]))))))
def r66 : List ARes := []
theorem k66 : compFn Tryz.prog 66 = some ⟨18, (s66).er, r66⟩ := by kernel_rfl
abbrev q66 (O : Ops Tryz.prog) := curF 2 (sfn O (s66) r66)
def g66 : { g // g = q66 } := by
  have h : q66 = q66 := rfl
  conv at h => rhs; reduce
  exact ⟨_, h.symm⟩
def C66 : T 66 := mkRun 2 (k66) (by decide) (g66.1 (theOps Tryz.prog)) (by rw [g66.2])
/- 131: (*rampart/table.Table).Tick$1 -/
def s131 : S := .seq (.reg [mK 3 (.b false)]) (.seq (.draw 0 [⟨[], [⟨0, ⟨some 4, .read (.ld1 1), none⟩, 0⟩, ⟨1, ⟨some 5, .pure (.nilCheck 4), none⟩, 0⟩, ⟨2, ⟨some 6, .pure (.fieldAddr 2 5), none⟩, 0⟩, ⟨3, ⟨some 7, .read (.ld1 6), none⟩, 0⟩, ⟨4, ⟨some 8, .pure (.mv 0), none⟩, 0⟩, ⟨5, ⟨some 9, .pure (.nilCheck 8), none⟩, 0⟩, ⟨6, ⟨some 10, .pure (.fieldAddr 6 9), none⟩, 0⟩, ⟨7, ⟨some 11, .read (.ld1 10), none⟩, 0⟩, ⟨8, ⟨some 12, .pure (.bin .sub 7 11), none⟩, 0⟩, ⟨9, ⟨some 13, .read (.ld1 1), none⟩, 0⟩, ⟨10, ⟨some 14, .pure (.nilCheck 13), none⟩, 0⟩, ⟨11, ⟨some 15, .pure (.fieldAddr 1 14), none⟩, 0⟩, ⟨12, ⟨some 16, .read (.ld1 15), none⟩, 0⟩, ⟨13, ⟨some 17, .pure (.bin .geq 12 16), none⟩, 0⟩, ⟨14, ⟨some 3, .pure (.mv 17), none⟩, 0⟩], none⟩]) .ret)
def r131 : List ARes := [.t 3]
theorem k131 : compFn Tryz.prog 131 = some ⟨18, (s131).er, r131⟩ := by kernel_rfl
abbrev q131 (O : Ops Tryz.prog) := curF 2 (sfn O (s131) r131)
def g131 : { g // g = q131 } := by
  have h : q131 = q131 := rfl
  conv at h => rhs; reduce
  exact ⟨_, h.symm⟩
def C131 : T 131 := mkRun 2 (k131) (by decide) (g131.1 (theOps Tryz.prog)) (by rw [g131.2])
def A131 : U := ⟨131, C131⟩
/- 133: (*rampart/table.Table).Flush$1 -/
def s133 : S := .seq (.reg [mK 2 (.b false)]) (.seq (.reg [mK 2 (.b true)]) .ret)
def r133 : List ARes := [.t 2]
theorem k133 : compFn Tryz.prog 133 = some ⟨3, (s133).er, r133⟩ := by kernel_rfl
abbrev q133 (O : Ops Tryz.prog) := curF 1 (sfn O (s133) r133)
def g133 : { g // g = q133 } := by
  have h : q133 = q133 := rfl
  conv at h => rhs; reduce
  exact ⟨_, h.symm⟩
def C133 : T 133 := mkRun 1 (k133) (by decide) (g133.1 (theOps Tryz.prog)) (by rw [g133.2])
def A133 : U := ⟨133, C133⟩
/- 134: (*rampart/table.Table).all -/
def s134 : S := .seq (.reg [mK 2 (.sl 0 none 0 0)]) (.seq (.reg [mK 3 (.sl 0 none 0 0)]) (.seq (.seq (.reg [mM 5 0, mU 6 (.nilCheck 5), mF 4 7 6, mL 8 7, mU 9 (.nilCheck 8), mF 8 10 9, mL 11 10, mM 4 11]) (.block 0 (.loop [3, 4] [0] (.seq (.seq (.reg [mM 12 4, mM 13 0, mU 14 (.nilCheck 13), mF 4 15 14, mL 16 15, mR 17 (.peq true 12 16)]) (.cond 17 .skip (.exit 0))) (.seq (.block 1 (.reg [mM 22 3, mM 23 4, mN 24 (.bslice 1 1 [.p none] [(0, (1, 23))]), mY 25 (.append 1 8 22 24), mM 3 25])) (.reg [mM 18 4, mU 19 (.nilCheck 18), mF 8 20 19, mL 21 20, mM 4 21])))))) (.seq (.reg [mM 26 3, mM 2 26]) .ret)))
def r134 : List ARes := [.t 2]
theorem k134 : compFn Tryz.prog 134 = some ⟨27, (s134).er, r134⟩ := by kernel_rfl
abbrev q134 (O : Ops Tryz.prog) := curF 1 (sfn O (s134) r134)
def g134 : { g // g = q134 } := by
  have h : q134 = q134 := rfl
  conv at h => rhs; reduce
  exact ⟨_, h.symm⟩
def C134 : T 134 := mkRun 1 (k134) (by decide) (g134.1 (theOps Tryz.prog)) (by rw [g134.2])
/- 181: (*rampart/table.flow).out -/
def s181 : S := .draw 0 [⟨[], [⟨0, ⟨some 2, .pure (.mv 0), none⟩, 0⟩, ⟨1, ⟨some 3, .pure (.nilCheck 2), none⟩, 0⟩, ⟨2, ⟨some 4, .pure (.fieldAddr 7 3), none⟩, 0⟩, ⟨3, ⟨some 5, .read (.ld1 4), none⟩, 0⟩, ⟨4, ⟨some 6, .pure (.mv 0), none⟩, 0⟩, ⟨5, ⟨some 7, .pure (.nilCheck 6), none⟩, 0⟩, ⟨6, ⟨some 8, .pure (.fieldAddr 8 7), none⟩, 0⟩, ⟨7, ⟨some 9, .read (.ld1 8), none⟩, 0⟩, ⟨8, ⟨some 10, .pure (.mv 0), none⟩, 0⟩, ⟨9, ⟨some 11, .pure (.nilCheck 10), none⟩, 0⟩, ⟨10, ⟨some 12, .pure (.fieldAddr 8 11), none⟩, 0⟩, ⟨11, ⟨some 13, .read (.ld1 12), none⟩, 0⟩, ⟨12, ⟨some 14, .pure (.mv 0), none⟩, 0⟩, ⟨13, ⟨some 15, .pure (.nilCheck 14), none⟩, 0⟩, ⟨14, ⟨some 16, .pure (.fieldAddr 7 15), none⟩, 0⟩, ⟨15, ⟨some 17, .read (.ld1 16), none⟩, 0⟩, ⟨16, ⟨some 18, .pure (.nilCheck 5), none⟩, 0⟩, ⟨17, ⟨some 19, .pure (.fieldAddr 8 18), none⟩, 0⟩], some (mZ (.st 1 19 13))⟩, ⟨[], [⟨19, ⟨some 20, .pure (.nilCheck 9), none⟩, 1⟩, ⟨20, ⟨some 21, .pure (.fieldAddr 7 20), none⟩, 1⟩], some (mZ (.st 1 21 17))⟩, ⟨[], [], none⟩]
def r181 : List ARes := []
theorem k181 : compFn Tryz.prog 181 = some ⟨22, (s181).er, r181⟩ := by kernel_rfl
abbrev q181 (O : Ops Tryz.prog) := curF 1 (sfn O (s181) r181)
def g181 : { g // g = q181 } := by
  have h : q181 = q181 := rfl
  conv at h => rhs; reduce
  exact ⟨_, h.symm⟩
def C181 : T 181 := mkRun 1 (k181) (by decide) (g181.1 (theOps Tryz.prog)) (by rw [g181.2])
/- 184: (*rampart/table.Table).gone -/
def s184 (c181 : T 181) : S := .seq (.reg [mM 4 1, mQ 5 181 [4] c181]) (.draw 0 [⟨[], [⟨0, ⟨some 6, .pure (.mv 0), none⟩, 0⟩, ⟨1, ⟨some 7, .pure (.nilCheck 6), none⟩, 0⟩, ⟨2, ⟨some 8, .pure (.fieldAddr 5 7), none⟩, 0⟩, ⟨3, ⟨some 9, .read (.ld1 8), none⟩, 0⟩, ⟨4, ⟨some 10, .pure (.mv 1), none⟩, 0⟩, ⟨5, ⟨some 11, .pure (.nilCheck 10), none⟩, 0⟩, ⟨6, ⟨some 12, .pure (.fieldAddr 0 11), none⟩, 0⟩, ⟨7, ⟨some 13, .read (.ldN 5 12), none⟩, 0⟩], some (mZ (.del (.flat [(0, .i), (1, .i), (2, .i), (3, .i), (4, .i)]) 9 13))⟩, ⟨[], [], none⟩])
def r184 : List ARes := []
theorem k184 (c181 : T 181) : compFn Tryz.prog 184 = some ⟨14, (s184 c181).er, r184⟩ := by kernel_rfl
abbrev q184 (O : Ops Tryz.prog) (c181 : T 181) := curF 2 (sfn O (s184 c181) r184)
def g184 : { g // g = q184 } := by
  have h : q184 = q184 := rfl
  conv at h => rhs; reduce
  exact ⟨_, h.symm⟩
def C184 : T 184 := mkRun 2 (k184 C181) (by decide) (g184.1 (theOps Tryz.prog) C181) (by rw [g184.2])
/- 327: (*rampart/table.Table).Remove$1 -/
def s327 : S := .seq (.reg [mK 3 (.b false)]) (.seq (.draw 0 [⟨[], [⟨0, ⟨some 4, .pure (.mv 0), none⟩, 0⟩, ⟨1, ⟨some 5, .pure (.nilCheck 4), none⟩, 0⟩, ⟨2, ⟨some 6, .pure (.fieldAddr 5 5), none⟩, 0⟩, ⟨3, ⟨some 7, .read (.ld1 6), none⟩, 0⟩, ⟨4, ⟨some 8, .read (.ld1 1), none⟩, 0⟩, ⟨5, ⟨some 9, .pure (.bin .eql 7 8), none⟩, 0⟩, ⟨6, ⟨some 3, .pure (.mv 9), none⟩, 0⟩], none⟩]) .ret)
def r327 : List ARes := [.t 3]
theorem k327 : compFn Tryz.prog 327 = some ⟨10, (s327).er, r327⟩ := by kernel_rfl
abbrev q327 (O : Ops Tryz.prog) := curF 2 (sfn O (s327) r327)
def g327 : { g // g = q327 } := by
  have h : q327 = q327 := rfl
  conv at h => rhs; reduce
  exact ⟨_, h.symm⟩
def C327 : T 327 := mkRun 2 (k327) (by decide) (g327.1 (theOps Tryz.prog)) (by rw [g327.2])
def A327 : U := ⟨327, C327⟩
/- 130: (*rampart/table.Table).goes -/
def s130 (c134 : T 134) (c160 : T 160) (c184 : T 184) (a131 : U) (a133 : U) (a327 : U) : S := .seq (.reg [mK 4 (.sl 0 none 0 0)]) (.seq (.reg [mK 5 (.sl 0 none 0 0)]) (.seq (.join [0, 1, 5, 9, 10, 11] [] (.reg [mM 8 0, mQ 9 134 [8] c134, mU 10 (.lenSl 9), mK 11 0]) (.block 0 (.loop [5, 11] [0, 1, 9, 10] (.seq (.reg [mB .lss 12 11 10]) (.seq (.cond 12 .skip (.exit 0)) (.join [0, 1, 5, 9, 10, 11] [] (.block 1 (.seq (.reg [mU 13 (.idxAddrSl 1 9 11), mL 14 13, mM 7 14]) (.seq (.reg [mM 15 1, mM 16 7, mV 17 15 [16] [a131, a133, a327] []]) (.cond 17 (.seq (.reg [mM 18 0, mM 19 7, mQ 20 184 [18, 19] c184]) (.reg [mM 21 5, mM 22 7, mU 23 (.nilCheck 22), mF 5 24 23, mL 25 24, mN 26 (.bslice 1 1 [0] [(0, (1, 25))]), mY 27 (.append 1 8 21 26), mM 5 27])) .skip)))) (.reg [mB .add 28 11 (.c 1), mM 11 28]))))))) (.seq (.reg [mM 29 5, mQ 30 160 [29] c160]) (.seq (.reg [mM 31 5, mM 4 31]) .ret))))
def r130 : List ARes := [.t 4]
theorem k130 (c134 : T 134) (c160 : T 160) (c184 : T 184) (a131 : U) (a133 : U) (a327 : U) : compFn Tryz.prog 130 = some ⟨32, (s130 c134 c160 c184 a131 a133 a327).er, r130⟩ := by kernel_rfl
abbrev q130 (O : Ops Tryz.prog) (c134 : T 134) (c160 : T 160) (c184 : T 184) (a131 : U) (a133 : U) (a327 : U) := curF 2 (sfn O (s130 c134 c160 c184 a131 a133 a327) r130)
def g130 : { g // g = q130 } := by
  have h : q130 = q130 := rfl
  conv at h => rhs; reduce
  exact ⟨_, h.symm⟩
def C130 : T 130 := mkRun 2 (k130 C134 C160 C184 A131 A133 A327) (by decide) (g130.1 (theOps Tryz.prog) C134 C160 C184 A131 A133 A327) (by rw [g130.2])
/- 70: (*rampart/table.Table).Flush -/
def s70 (c130 : T 130) : S := .seq (.reg [mK 2 (.sl 0 none 0 0)]) (.seq (.reg [mM 3 0, mQ 4 130 [3, .fn 133] c130, mM 2 4]) .ret)
def r70 : List ARes := [.t 2]
theorem k70 (c130 : T 130) : compFn Tryz.prog 70 = some ⟨5, (s70 c130).er, r70⟩ := by kernel_rfl
abbrev q70 (O : Ops Tryz.prog) (c130 : T 130) := curF 1 (sfn O (s70 c130) r70)
def g70 : { g // g = q70 } := by
  have h : q70 = q70 := rfl
  conv at h => rhs; reduce
  exact ⟨_, h.symm⟩
def C70 : T 70 := mkRun 1 (k70 C130) (by decide) (g70.1 (theOps Tryz.prog) C130) (by rw [g70.2])
/- 71: (*rampart/defrag.Table).Flush -/
def s71 : S := .reg [mM 2 0, mU 3 (.nilCheck 2), mF 2 4 3, mL 5 4, mZ (.clearM 5)]
def r71 : List ARes := []
theorem k71 : compFn Tryz.prog 71 = some ⟨6, (s71).er, r71⟩ := by kernel_rfl
abbrev q71 (O : Ops Tryz.prog) := curF 1 (sfn O (s71) r71)
def g71 : { g // g = q71 } := by
  have h : q71 = q71 := rfl
  conv at h => rhs; reduce
  exact ⟨_, h.symm⟩
def C71 : T 71 := mkRun 1 (k71) (by decide) (g71.1 (theOps Tryz.prog)) (by rw [g71.2])
/- 30: (*rampart/engine.Engine).Flush -/
def s30 (c66 : T 66) (c70 : T 70) (c71 : T 71) : S := .seq (.reg [mN 2 (.newz [.sl 0 none 0 0, .sl 0 none 0 0, 0, 0])]) (.seq (.reg [mM 3 0, mM 4 0, mU 5 (.nilCheck 4), mF 12 6 5, mL 7 6, mQ 8 70 [7] c70, mQ 9 66 [3, 8] c66]) (.seq (.reg [mM 10 0, mU 11 (.nilCheck 10), mF 11 12 11, mL 13 12, mQ 14 71 [13] c71]) (.seq (.reg [mU 15 (.build [.sl 0 none 0 0, .sl 0 none 0 0, 0, 0] []), mZ (.st 4 2 15)]) .ret)))
def r30 : List ARes := [.c true 4 2]
theorem k30 (c66 : T 66) (c70 : T 70) (c71 : T 71) : compFn Tryz.prog 30 = some ⟨16, (s30 c66 c70 c71).er, r30⟩ := by kernel_rfl
abbrev q30 (O : Ops Tryz.prog) (c66 : T 66) (c70 : T 70) (c71 : T 71) := curF 1 (sfn O (s30 c66 c70 c71) r30)
def g30 : { g // g = q30 } := by
  have h : q30 = q30 := rfl
  conv at h => rhs; reduce
  exact ⟨_, h.symm⟩
def C30 : T 30 := mkRun 1 (k30 C66 C70 C71) (by decide) (g30.1 (theOps Tryz.prog) C66 C70 C71) (by rw [g30.2])
def A30 : U := ⟨30, C30⟩
/- 135: rampart/play.Do$1 -/
def s135 : S := .seq (.reg [mN 0 (.newz [.sl 0 none 0 0, .sl 0 none 0 0, 0, 0])]) (.seq (.reg [mU 1 (.build [.sl 0 none 0 0, .sl 0 none 0 0, 0, 0] []), mZ (.st 4 0 1)]) .ret)
def r135 : List ARes := [.c true 4 0]
theorem k135 : compFn Tryz.prog 135 = some ⟨2, (s135).er, r135⟩ := by kernel_rfl
abbrev q135 (O : Ops Tryz.prog) := curF 0 (sfn O (s135) r135)
def g135 : { g // g = q135 } := by
  have h : q135 = q135 := rfl
  conv at h => rhs; reduce
  exact ⟨_, h.symm⟩
def C135 : T 135 := mkRun 0 (k135) (by decide) (g135.1 (theOps Tryz.prog)) (by rw [g135.2])
def A135 : U := ⟨135, C135⟩
/- 98: rampart/engine.one -/
def s98 : S := .seq (.reg [mK 2 (.b false)]) (.seq (.reg [mM 3 0, mU 4 (.nilCheck 3), mL 5 4, mB .add 6 5 (.c 1), mU 7 (.nilCheck 3), mZ (.st 1 7 6)]) (.seq (.reg [mK 2 (.b false)]) .ret))
def r98 : List ARes := [.t 2]
theorem k98 : compFn Tryz.prog 98 = some ⟨8, (s98).er, r98⟩ := by kernel_rfl
abbrev q98 (O : Ops Tryz.prog) := curF 1 (sfn O (s98) r98)
def g98 : { g // g = q98 } := by
  have h : q98 = q98 := rfl
  conv at h => rhs; reduce
  exact ⟨_, h.symm⟩
def C98 : T 98 := mkRun 1 (k98) (by decide) (g98.1 (theOps Tryz.prog)) (by rw [g98.2])
/- 162: rampart/sum.Num -/
def s162 : S := .seq (.reg [mK 2 0]) (.seq (.reg [mK 3 0]) (.seq (.seq (.reg [mM 6 0, mM 7 0, mU 8 (.lenS 7), mB .sub 9 8 (.c 7), mU 10 (.mxmn true [.c 0, 9]), mU 11 (.slStr 6 (some 10) none), mN 12 (.s2b 11), mU 13 (.lenSl 12), mK 14 0]) (.block 0 (.loop [3, 14] [12, 13] (.seq (.reg [mB .lss 15 14 13]) (.seq (.cond 15 .skip (.exit 0)) (.seq (.block 1 (.seq (.reg [mU 16 (.idxAddrSl 1 12 14), mL 17 16, mM 5 17]) (.reg [mM 18 3, mB .shl 19 18 (.c (.i .u64 8)), mM 20 5, mU 21 (.conv .i64 20), mB .or 22 19 21, mM 3 22]))) (.reg [mB .add 23 14 (.c 1), mM 14 23]))))))) (.seq (.reg [mM 24 3, mM 2 24]) .ret)))
def r162 : List ARes := [.t 2]
theorem k162 : compFn Tryz.prog 162 = some ⟨25, (s162).er, r162⟩ := by kernel_rfl
abbrev q162 (O : Ops Tryz.prog) := curF 1 (sfn O (s162) r162)
def g162 : { g // g = q162 } := by
  have h : q162 = q162 := rfl
  conv at h => rhs; reduce
  exact ⟨_, h.symm⟩
def C162 : T 162 := mkRun 1 (k162) (by decide) (g162.1 (theOps Tryz.prog)) (by rw [g162.2])
/- 99: rampart/eth.Get -/
def s99 (c162 : T 162) : S := .seq (.reg [mN 2 (.newz [.i .u8 0, .i .u8 0, .i .u8 0, .i .u8 0, .i .u8 0, .i .u8 0, .i .u8 0, .i .u8 0, .i .u8 0, .i .u8 0, .i .u8 0, .i .u8 0, 0]), mK 3 (.s []), mK 4 0]) (.join [0, 2] [] (.block 0 (.seq (.reg [mM 7 0, mU 8 (.lenS 7), mB .lss 9 8 (.c 14), mM 6 9]) (.cond 6 (.seq (.reg [mU 10 (.build [.i .u8 0, .i .u8 0, .i .u8 0, .i .u8 0, .i .u8 0, .i .u8 0, .i .u8 0, .i .u8 0, .i .u8 0, .i .u8 0, .i .u8 0, .i .u8 0, 0] []), mZ (.st 13 2 10), mK 3 (.s []), mK 4 2]) .ret) (.seq (.reg [mM 12 0, mU 13 (.lenS 12), mB .gtr 14 13 (.c 3000), mM 11 14]) (.cond 11 (.seq (.reg [mU 15 (.build [.i .u8 0, .i .u8 0, .i .u8 0, .i .u8 0, .i .u8 0, .i .u8 0, .i .u8 0, .i .u8 0, .i .u8 0, .i .u8 0, .i .u8 0, .i .u8 0, 0] []), mZ (.st 13 2 15), mK 3 (.s []), mK 4 5]) .ret) .skip))))) (.seq (.reg [mN 5 (.newz [.i .u8 0, .i .u8 0, .i .u8 0, .i .u8 0, .i .u8 0, .i .u8 0, .i .u8 0, .i .u8 0, .i .u8 0, .i .u8 0, .i .u8 0, .i .u8 0, 0])]) (.join [0, 2, 5] [] (.reg [mF 0 16 5, mR 17 (.slArr 6 1 16 none none), mM 18 0, mY 19 (.copy 1 17 18)]) (.join [0, 2, 5] [] (.draw 0 [⟨[], [⟨0, ⟨some 20, .pure (.fieldAddr 6 5), none⟩, 0⟩, ⟨1, ⟨some 21, .read (.slArr 6 1 20 none none), none⟩, 0⟩, ⟨2, ⟨some 22, .pure (.mv 0), none⟩, 0⟩, ⟨3, ⟨some 23, .pure (.slStr 22 (some (.c 6)) none), none⟩, 0⟩], some (mY 24 (.copy 1 21 23))⟩, ⟨[], [], none⟩]) (.seq (.reg [mM 25 0, mU 26 (.slStr 25 (some (.c 12)) (some (.c 14))), mQ 27 162 [26] c162, mF 12 28 5, mZ (.st 1 28 27)]) (.seq (.draw 0 [⟨[], [⟨0, ⟨some 29, .read (.ldN 13 5), none⟩, 0⟩, ⟨1, ⟨some 30, .pure (.mv 0), none⟩, 1⟩, ⟨2, ⟨some 31, .pure (.slStr 30 (some (.c 14)) none), none⟩, 1⟩], some (mZ (.st 13 2 29))⟩, ⟨[], [⟨4, ⟨some 3, .pure (.mv 31), none⟩, 1⟩, ⟨5, ⟨some 4, .pure (.mv (.c 0)), none⟩, 1⟩], none⟩]) .ret))))))
def r99 : List ARes := [.c true 13 2, .t 3, .t 4]
theorem k99 (c162 : T 162) : compFn Tryz.prog 99 = some ⟨32, (s99 c162).er, r99⟩ := by kernel_rfl
abbrev q99 (O : Ops Tryz.prog) (c162 : T 162) := curF 1 (sfn O (s99 c162) r99)
def g99 : { g // g = q99 } := by
  have h : q99 = q99 := rfl
  conv at h => rhs; reduce
  exact ⟨_, h.symm⟩
def C99 : T 99 := mkRun 1 (k99 C162) (by decide) (g99.1 (theOps Tryz.prog) C162) (by rw [g99.2])
/- 48: (*rampart/engine.Engine).frame -/
def s48 (c98 : T 98) (c99 : T 99) : S := .seq (.reg [mK 4 (.b false)]) (.join [0, 1] [] (.seq (.reg [mM 8 1, mU 9 (.nilCheck 8), mF 0 10 9, mL 11 10, mB .neq 12 11 (.c 0), mM 13 12, (mM 14 1).g 13 true, (mU 15 (.nilCheck 14)).g 13 true, (mF 0 16 15).g 13 true, (mL 17 16).g 13 true, (mB .neq 18 17 (.c 1)).g 13 true, mU 19 (.pick 13 18 (.c (.b false)))]) (.cond 19 (.seq (.reg [mM 20 0, mU 21 (.nilCheck 20), mF 15 22 21, mF 2 23 22, mQ 24 98 [23] c98, mM 4 24]) .ret) .skip)) (.join [0, 1, 5, 6, 7] [] (.reg [mM 26 1, mU 27 (.nilCheck 26), mF 1 28 27, mL 29 28, mQ 30 99 [29] c99, mM 25 30, mU 31 (.extract 0 25), mU 32 (.extract 1 25), mU 33 (.extract 2 25), mN 5 (.newz [.i .u8 0, .i .u8 0, .i .u8 0, .i .u8 0, .i .u8 0, .i .u8 0, .i .u8 0, .i .u8 0, .i .u8 0, .i .u8 0, .i .u8 0, .i .u8 0, 0]), mZ (.st 13 5 31), mM 6 32, mM 7 33]) (.seq (.seq (.reg [mM 34 7, mB .neq 35 34 (.c 0)]) (.cond 35 (.seq (.reg [mM 36 0, mU 37 (.nilCheck 36), mF 15 38 37, mF 2 39 38, mQ 40 98 [39] c98, mM 4 40]) .ret) .skip)) (.seq (.reg [mM 41 1, mM 42 1, mR 43 (.ldN 13 5), mM 44 6, mU 45 (.nilCheck 41), mF 2 46 45, mZ (.st 13 46 43), mU 47 (.nilCheck 42), mF 25 48 47, mZ (.st 1 48 44)]) (.seq (.reg [mK 4 (.b true)]) .ret)))))
def r48 : List ARes := [.t 4]
theorem k48 (c98 : T 98) (c99 : T 99) : compFn Tryz.prog 48 = some ⟨49, (s48 c98 c99).er, r48⟩ := by kernel_rfl
abbrev q48 (O : Ops Tryz.prog) (c98 : T 98) (c99 : T 99) := curF 2 (sfn O (s48 c98 c99) r48)
def g48 : { g // g = q48 } := by
  have h : q48 = q48 := rfl
  conv at h => rhs; reduce
  exact ⟨_, h.symm⟩
def C48 : T 48 := mkRun 2 (k48 C98 C99) (by decide) (g48.1 (theOps Tryz.prog) C98 C99) (by rw [g48.2])
def A48 : U := ⟨48, C48⟩
/- 116: (*rampart/engine.packet).emit -/
def s116 : S := .reg [mM 6 0, mM 7 0, mU 8 (.nilCheck 7), mF 43 9 8, mF 0 10 9, mL 11 10, mM 12 1, mM 13 2, mU 14 (.build [0, .s []] [(0, (1, 12)), (1, (1, 13))]), mN 15 (.bslice 2 1 [0, .s []] [(0, (2, 14))]), mY 16 (.append 2 24 11 15), mU 17 (.nilCheck 6), mF 43 18 17, mF 0 19 18, mZ (.st 1 19 16)]
def r116 : List ARes := []
theorem k116 : compFn Tryz.prog 116 = some ⟨20, (s116).er, r116⟩ := by kernel_rfl
abbrev q116 (O : Ops Tryz.prog) := curF 3 (sfn O (s116) r116)
def g116 : { g // g = q116 } := by
  have h : q116 = q116 := rfl
  conv at h => rhs; reduce
  exact ⟨_, h.symm⟩
def C116 : T 116 := mkRun 3 (k116) (by decide) (g116.1 (theOps Tryz.prog)) (by rw [g116.2])
/- 100: (*rampart/engine.Engine).pass -/
def s100 (c98 : T 98) (c116 : T 116) : S := .seq (.reg [mK 6 (.b false)]) (.seq (.reg [mM 7 1, mM 8 1, mU 9 (.nilCheck 8), mF 0 10 9, mL 11 10, mB .sub 12 (.c 1) 11, mM 13 2, mQ 14 116 [7, 12, 13] c116]) (.seq (.reg [mM 15 0, mU 16 (.nilCheck 15), mF 15 17 16, mF 1 18 17, mQ 19 98 [18] c98, mM 6 19]) .ret))
def r100 : List ARes := [.t 6]
theorem k100 (c98 : T 98) (c116 : T 116) : compFn Tryz.prog 100 = some ⟨20, (s100 c98 c116).er, r100⟩ := by kernel_rfl
abbrev q100 (O : Ops Tryz.prog) (c98 : T 98) (c116 : T 116) := curF 3 (sfn O (s100 c98 c116) r100)
def g100 : { g // g = q100 } := by
  have h : q100 = q100 := rfl
  conv at h => rhs; reduce
  exact ⟨_, h.symm⟩
def C100 : T 100 := mkRun 3 (k100 C98 C116) (by decide) (g100.1 (theOps Tryz.prog) C98 C116) (by rw [g100.2])
/- 49: (*rampart/engine.Engine).other -/
def s49 (c100 : T 100) : S := .seq (.reg [mK 4 (.b false)]) (.seq (.seq (.reg [mM 5 1, mU 6 (.nilCheck 5), mF 2 7 6, mF 12 8 7, mL 9 8, mB .neq 10 9 (.c 2048)]) (.cond 10 (.seq (.reg [mM 11 0, mM 12 1, mM 13 1, mU 14 (.nilCheck 13), mF 1 15 14, mL 16 15, mQ 17 100 [11, 12, 16] c100, mM 4 17]) .ret) .skip)) (.seq (.reg [mK 4 (.b true)]) .ret))
def r49 : List ARes := [.t 4]
theorem k49 (c100 : T 100) : compFn Tryz.prog 49 = some ⟨18, (s49 c100).er, r49⟩ := by kernel_rfl
abbrev q49 (O : Ops Tryz.prog) (c100 : T 100) := curF 2 (sfn O (s49 c100) r49)
def g49 : { g // g = q49 } := by
  have h : q49 = q49 := rfl
  conv at h => rhs; reduce
  exact ⟨_, h.symm⟩
def C49 : T 49 := mkRun 2 (k49 C100) (by decide) (g49.1 (theOps Tryz.prog) C100) (by rw [g49.2])
def A49 : U := ⟨49, C49⟩
/- 163: rampart/ipv4.checks -/
def s163 : S := .seq (.reg [mK 0 (.sl 0 none 0 0)]) (.seq (.reg [mU 1 (.build [.nf, 0] [(0, (1, .fn 244)), (1, (1, .c 2))]), mU 2 (.build [.nf, 0] [(0, (1, .fn 245)), (1, (1, .c 3))]), mU 3 (.build [.nf, 0] [(0, (1, .fn 246)), (1, (1, .c 2))]), mU 4 (.build [.nf, 0] [(0, (1, .fn 247)), (1, (1, .c 3))]), mU 5 (.build [.nf, 0] [(0, (1, .fn 248)), (1, (1, .c 2))]), mU 6 (.build [.nf, 0] [(0, (1, .fn 249)), (1, (1, .c 3))]), mU 7 (.build [.nf, 0] [(0, (1, .fn 250)), (1, (1, .c 5))]), mU 8 (.build [.nf, 0] [(0, (1, .fn 251)), (1, (1, .c 4))]), mN 9 (.bslice 2 8 [.nf, 0, .nf, 0, .nf, 0, .nf, 0, .nf, 0, .nf, 0, .nf, 0, .nf, 0] [(0, (2, 1)), (2, (2, 2)), (4, (2, 3)), (6, (2, 4)), (8, (2, 5)), (10, (2, 6)), (12, (2, 7)), (14, (2, 8))]), mM 0 9]) .ret)
def r163 : List ARes := [.t 0]
theorem k163 : compFn Tryz.prog 163 = some ⟨10, (s163).er, r163⟩ := by kernel_rfl
abbrev q163 (O : Ops Tryz.prog) := curF 0 (sfn O (s163) r163)
def g163 : { g // g = q163 } := by
  have h : q163 = q163 := rfl
  conv at h => rhs; reduce
  exact ⟨_, h.symm⟩
def C163 : T 163 := mkRun 0 (k163) (by decide) (g163.1 (theOps Tryz.prog)) (by rw [g163.2])
/- 164: rampart/ipv4.size -/
def s164 : S := .seq (.reg [mK 2 0]) (.seq (.reg [mM 3 0, mU 4 (.idxStr 3 (.c 0)), mU 5 (.conv .i64 4), mB .and 6 5 (.c 15), mB .mul 7 (.c 4) 6, mM 2 7]) .ret)
def r164 : List ARes := [.t 2]
theorem k164 : compFn Tryz.prog 164 = some ⟨8, (s164).er, r164⟩ := by kernel_rfl
abbrev q164 (O : Ops Tryz.prog) := curF 1 (sfn O (s164) r164)
def g164 : { g // g = q164 } := by
  have h : q164 = q164 := rfl
  conv at h => rhs; reduce
  exact ⟨_, h.symm⟩
def C164 : T 164 := mkRun 1 (k164) (by decide) (g164.1 (theOps Tryz.prog)) (by rw [g164.2])
/- 165: rampart/ipv4.all -/
def s165 (c162 : T 162) : S := .seq (.reg [mK 2 0]) (.seq (.reg [mM 3 0, mU 4 (.slStr 3 (some (.c 2)) (some (.c 4))), mQ 5 162 [4] c162, mM 2 5]) .ret)
def r165 : List ARes := [.t 2]
theorem k165 (c162 : T 162) : compFn Tryz.prog 165 = some ⟨6, (s165 c162).er, r165⟩ := by kernel_rfl
abbrev q165 (O : Ops Tryz.prog) (c162 : T 162) := curF 1 (sfn O (s165 c162) r165)
def g165 : { g // g = q165 } := by
  have h : q165 = q165 := rfl
  conv at h => rhs; reduce
  exact ⟨_, h.symm⟩
def C165 : T 165 := mkRun 1 (k165 C162) (by decide) (g165.1 (theOps Tryz.prog) C162) (by rw [g165.2])
/- 170: rampart/dgram.GetUDP$1 -/
def s170 (c162 : T 162) : S := .seq (.reg [mK 2 (.b false)]) (.seq (.reg [mM 3 0, mU 4 (.slStr 3 (some (.c 4)) (some (.c 6))), mQ 5 162 [4] c162, mM 6 0, mU 7 (.lenS 6), mB .neq 8 5 7, mM 2 8]) .ret)
def r170 : List ARes := [.t 2]
theorem k170 (c162 : T 162) : compFn Tryz.prog 170 = some ⟨9, (s170 c162).er, r170⟩ := by kernel_rfl
abbrev q170 (O : Ops Tryz.prog) (c162 : T 162) := curF 1 (sfn O (s170 c162) r170)
def g170 : { g // g = q170 } := by
  have h : q170 = q170 := rfl
  conv at h => rhs; reduce
  exact ⟨_, h.symm⟩
def C170 : T 170 := mkRun 1 (k170 C162) (by decide) (g170.1 (theOps Tryz.prog) C162) (by rw [g170.2])
def A170 : U := ⟨170, C170⟩
/- 253: rampart/sum.fold -/
def s253 : S := .seq (.reg [mK 2 0]) (.seq (.block 0 (.loop [0] [] (.seq (.seq (.reg [mM 3 0, mB .gtr 4 3 (.c 65535)]) (.cond 4 .skip (.exit 0))) (.block 1 (.reg [mM 5 0, mB .and 6 5 (.c 65535), mM 7 0, mB .shr 8 7 (.c (.i .u64 16)), mB .add 9 6 8, mM 0 9]))))) (.seq (.reg [mM 10 0, mM 2 10]) .ret))
def r253 : List ARes := [.t 2]
theorem k253 : compFn Tryz.prog 253 = some ⟨11, (s253).er, r253⟩ := by kernel_rfl
abbrev q253 (O : Ops Tryz.prog) := curF 1 (sfn O (s253) r253)
def g253 : { g // g = q253 } := by
  have h : q253 = q253 := rfl
  conv at h => rhs; reduce
  exact ⟨_, h.symm⟩
def C253 : T 253 := mkRun 1 (k253) (by decide) (g253.1 (theOps Tryz.prog)) (by rw [g253.2])
/- 172: rampart/sum.Of -/
def s172 (c253 : T 253) : S := .seq (.reg [mK 2 0]) (.seq (.reg [mK 3 0, mK 4 0]) (.seq (.seq (.reg [mM 8 0, mU 9 (.lenSl 8), mK 10 0]) (.block 0 (.loop [3, 4, 10] [8, 9] (.seq (.reg [mB .lss 11 10 9]) (.seq (.cond 11 .skip (.exit 0)) (.seq (.block 1 (.join [3, 4, 6, 8, 9, 10] [] (.reg [mU 12 (.idxAddrSl 1 8 10), mL 13 12, mM 6 13]) (.seq (.reg [mM 14 6, mU 15 (.lenS 14), mK 16 0]) (.block 2 (.loop [3, 4, 16] [6, 8, 9, 10, 15] (.seq (.reg [mB .lss 17 16 15]) (.seq (.cond 17 .skip (.exit 2)) (.seq (.block 3 (.seq (.reg [mM 18 16, mM 7 18]) (.seq (.reg [mM 19 3, mM 20 6, mM 21 7, mU 22 (.idxStr 20 21), mU 23 (.conv .i64 22), mM 24 4, mB .rem 25 24 (.c 2), mB .sub 26 (.c 1) 25, mB .mul 27 (.c 8) 26, mB .shl 28 23 27, mB .add 29 19 28, mQ 30 253 [29] c253, mM 3 30]) (.reg [mM 31 4, mB .add 32 31 (.c 1), mM 4 32])))) (.reg [mB .add 33 16 (.c 1), mM 16 33]))))))))) (.reg [mB .add 34 10 (.c 1), mM 10 34]))))))) (.seq (.reg [mM 35 3, mU 36 (.un .xor 35), mB .and 37 36 (.c 65535), mM 2 37]) .ret)))
def r172 : List ARes := [.t 2]
theorem k172 (c253 : T 253) : compFn Tryz.prog 172 = some ⟨38, (s172 c253).er, r172⟩ := by kernel_rfl
abbrev q172 (O : Ops Tryz.prog) (c253 : T 253) := curF 1 (sfn O (s172 c253) r172)
def g172 : { g // g = q172 } := by
  have h : q172 = q172 := rfl
  conv at h => rhs; reduce
  exact ⟨_, h.symm⟩
def C172 : T 172 := mkRun 1 (k172 C253) (by decide) (g172.1 (theOps Tryz.prog) C253) (by rw [g172.2])
/- 254: rampart/sum.Big -/
def s254 : S := .seq (.reg [mK 4 (.s [])]) (.join [0, 1] [] (.reg [mM 7 1, mU 8 (.mxmn false [7, .c 8]), mU 9 (.mxmn true [.c 0, 8]), mM 1 9]) (.seq (.reg [mM 10 1, mN 11 (.mkslice 1 1 [.i .u8 0] 10 10), mM 5 11]) (.seq (.seq (.reg [mM 12 5, mU 13 (.lenSl 12), mK 14 0]) (.block 0 (.loop [14] [0, 1, 5, 13] (.seq (.reg [mB .lss 15 14 13]) (.seq (.cond 15 .skip (.exit 0)) (.seq (.block 1 (.seq (.reg [mM 16 14, mM 6 16]) (.reg [mM 17 5, mM 18 1, mB .sub 19 18 (.c 1), mM 20 6, mB .sub 21 19 20, mM 22 0, mM 23 6, mB .mul 24 (.c 8) 23, mB .shr 25 22 24, mU 26 (.conv .u8 25), mU 27 (.idxAddrSl 1 17 21), mZ (.st 1 27 26)]))) (.reg [mB .add 28 14 (.c 1), mM 14 28]))))))) (.seq (.reg [mM 29 5, mR 30 (.b2s 29), mM 4 30]) .ret))))
def r254 : List ARes := [.t 4]
theorem k254 : compFn Tryz.prog 254 = some ⟨31, (s254).er, r254⟩ := by kernel_rfl
abbrev q254 (O : Ops Tryz.prog) := curF 2 (sfn O (s254) r254)
def g254 : { g // g = q254 } := by
  have h : q254 = q254 := rfl
  conv at h => rhs; reduce
  exact ⟨_, h.symm⟩
def C254 : T 254 := mkRun 2 (k254) (by decide) (g254.1 (theOps Tryz.prog)) (by rw [g254.2])
/- 173: rampart/dgram.pseudo -/
def s173 (c254 : T 254) : S := .seq (.reg [mK 6 (.s [])]) (.seq (.reg [mM 7 0, mU 8 (.conv .i64 7), mQ 9 254 [8, .c 4] c254, mM 10 1, mU 11 (.conv .i64 10), mQ 12 254 [11, .c 4] c254, mB .add 13 9 12, mB .add 14 13 (.c (.s [0])), mQ 15 254 [.c 17, .c 1] c254, mB .add 16 14 15, mM 17 2, mQ 18 254 [17, .c 2] c254, mB .add 19 16 18, mM 6 19]) .ret)
def r173 : List ARes := [.t 6]
theorem k173 (c254 : T 254) : compFn Tryz.prog 173 = some ⟨20, (s173 c254).er, r173⟩ := by kernel_rfl
abbrev q173 (O : Ops Tryz.prog) (c254 : T 254) := curF 3 (sfn O (s173 c254) r173)
def g173 : { g // g = q173 } := by
  have h : q173 = q173 := rfl
  conv at h => rhs; reduce
  exact ⟨_, h.symm⟩
def C173 : T 173 := mkRun 3 (k173 C254) (by decide) (g173.1 (theOps Tryz.prog) C254) (by rw [g173.2])
/- 171: rampart/dgram.GetUDP$2 -/
def s171 (c172 : T 172) (c173 : T 173) : S := .seq (.reg [mK 4 (.b false)]) (.seq (.reg [mM 5 0, mU 6 (.slStr 5 (some (.c 6)) (some (.c 8))), mB .neq 7 6 (.c (.s [0, 0])), mM 8 7, (mL 9 1).g 8 true, (mL 10 2).g 8 true, (mM 11 0).g 8 true, (mU 12 (.lenS 11)).g 8 true, (mQ 13 173 [9, 10, 12] c173).g 8 true, (mM 14 0).g 8 true, (mN 15 (.bslice 1 2 [.s [], .s []] [(0, (1, 13)), (1, (1, 14))])).g 8 true, (mQ 16 172 [15] c172).g 8 true, (mB .neq 17 16 (.c 0)).g 8 true, mU 18 (.pick 8 17 (.c (.b false))), mM 4 18]) .ret)
def r171 : List ARes := [.t 4]
theorem k171 (c172 : T 172) (c173 : T 173) : compFn Tryz.prog 171 = some ⟨19, (s171 c172 c173).er, r171⟩ := by kernel_rfl
abbrev q171 (O : Ops Tryz.prog) (c172 : T 172) (c173 : T 173) := curF 3 (sfn O (s171 c172 c173) r171)
def g171 : { g // g = q171 } := by
  have h : q171 = q171 := rfl
  conv at h => rhs; reduce
  exact ⟨_, h.symm⟩
def C171 : T 171 := mkRun 3 (k171 C172 C173) (by decide) (g171.1 (theOps Tryz.prog) C172 C173) (by rw [g171.2])
def A171 : U := ⟨171, C171⟩
/- 174: rampart/dgram.GetICMP$1 -/
def s174 : S := .seq (.reg [mK 2 (.b false)]) (.seq (.reg [mK 2 (.b false)]) .ret)
def r174 : List ARes := [.t 2]
theorem k174 : compFn Tryz.prog 174 = some ⟨3, (s174).er, r174⟩ := by kernel_rfl
abbrev q174 (O : Ops Tryz.prog) := curF 1 (sfn O (s174) r174)
def g174 : { g // g = q174 } := by
  have h : q174 = q174 := rfl
  conv at h => rhs; reduce
  exact ⟨_, h.symm⟩
def C174 : T 174 := mkRun 1 (k174) (by decide) (g174.1 (theOps Tryz.prog)) (by rw [g174.2])
def A174 : U := ⟨174, C174⟩
/- 175: rampart/dgram.GetICMP$2 -/
def s175 (c172 : T 172) : S := .seq (.reg [mK 2 (.b false)]) (.seq (.reg [mM 3 0, mN 4 (.bslice 1 1 [.s []] [(0, (1, 3))]), mQ 5 172 [4] c172, mB .neq 6 5 (.c 0), mM 2 6]) .ret)
def r175 : List ARes := [.t 2]
theorem k175 (c172 : T 172) : compFn Tryz.prog 175 = some ⟨7, (s175 c172).er, r175⟩ := by kernel_rfl
abbrev q175 (O : Ops Tryz.prog) (c172 : T 172) := curF 1 (sfn O (s175 c172) r175)
def g175 : { g // g = q175 } := by
  have h : q175 = q175 := rfl
  conv at h => rhs; reduce
  exact ⟨_, h.symm⟩
def C175 : T 175 := mkRun 1 (k175 C172) (by decide) (g175.1 (theOps Tryz.prog) C172) (by rw [g175.2])
def A175 : U := ⟨175, C175⟩
/- 244: rampart/ipv4.checks$1 -/
def s244 : S := .seq (.reg [mK 2 (.b false)]) (.seq (.reg [mM 3 0, mU 4 (.lenS 3), mB .lss 5 4 (.c 20), mM 2 5]) .ret)
def r244 : List ARes := [.t 2]
theorem k244 : compFn Tryz.prog 244 = some ⟨6, (s244).er, r244⟩ := by kernel_rfl
abbrev q244 (O : Ops Tryz.prog) := curF 1 (sfn O (s244) r244)
def g244 : { g // g = q244 } := by
  have h : q244 = q244 := rfl
  conv at h => rhs; reduce
  exact ⟨_, h.symm⟩
def C244 : T 244 := mkRun 1 (k244) (by decide) (g244.1 (theOps Tryz.prog)) (by rw [g244.2])
def A244 : U := ⟨244, C244⟩
/- 245: rampart/ipv4.checks$2 -/
def s245 (c164 : T 164) : S := .seq (.reg [mK 2 (.b false)]) (.seq (.reg [mM 3 0, mU 4 (.idxStr 3 (.c 0)), mB .shr 5 4 (.c (.i .u64 4)), mB .neq 6 5 (.c (.i .u8 4)), mM 7 6, (mM 8 0).g 7 false, (mQ 9 164 [8] c164).g 7 false, (mB .lss 10 9 (.c 20)).g 7 false, mU 11 (.pick 7 (.c (.b true)) 10), mM 2 11]) .ret)
def r245 : List ARes := [.t 2]
theorem k245 (c164 : T 164) : compFn Tryz.prog 245 = some ⟨12, (s245 c164).er, r245⟩ := by kernel_rfl
abbrev q245 (O : Ops Tryz.prog) (c164 : T 164) := curF 1 (sfn O (s245 c164) r245)
def g245 : { g // g = q245 } := by
  have h : q245 = q245 := rfl
  conv at h => rhs; reduce
  exact ⟨_, h.symm⟩
def C245 : T 245 := mkRun 1 (k245 C164) (by decide) (g245.1 (theOps Tryz.prog) C164) (by rw [g245.2])
def A245 : U := ⟨245, C245⟩
/- 246: rampart/ipv4.checks$3 -/
def s246 (c164 : T 164) : S := .seq (.reg [mK 2 (.b false)]) (.seq (.reg [mM 3 0, mU 4 (.lenS 3), mM 5 0, mQ 6 164 [5] c164, mB .lss 7 4 6, mM 2 7]) .ret)
def r246 : List ARes := [.t 2]
theorem k246 (c164 : T 164) : compFn Tryz.prog 246 = some ⟨8, (s246 c164).er, r246⟩ := by kernel_rfl
abbrev q246 (O : Ops Tryz.prog) (c164 : T 164) := curF 1 (sfn O (s246 c164) r246)
def g246 : { g // g = q246 } := by
  have h : q246 = q246 := rfl
  conv at h => rhs; reduce
  exact ⟨_, h.symm⟩
def C246 : T 246 := mkRun 1 (k246 C164) (by decide) (g246.1 (theOps Tryz.prog) C164) (by rw [g246.2])
def A246 : U := ⟨246, C246⟩
/- 247: rampart/ipv4.checks$4 -/
def s247 (c164 : T 164) (c165 : T 165) : S := .seq (.reg [mK 2 (.b false)]) (.seq (.reg [mM 3 0, mQ 4 165 [3] c165, mM 5 0, mQ 6 164 [5] c164, mB .lss 7 4 6, mM 2 7]) .ret)
def r247 : List ARes := [.t 2]
theorem k247 (c164 : T 164) (c165 : T 165) : compFn Tryz.prog 247 = some ⟨8, (s247 c164 c165).er, r247⟩ := by kernel_rfl
abbrev q247 (O : Ops Tryz.prog) (c164 : T 164) (c165 : T 165) := curF 1 (sfn O (s247 c164 c165) r247)
def g247 : { g // g = q247 } := by
  have h : q247 = q247 := rfl
  conv at h => rhs; reduce
  exact ⟨_, h.symm⟩
def C247 : T 247 := mkRun 1 (k247 C164 C165) (by decide) (g247.1 (theOps Tryz.prog) C164 C165) (by rw [g247.2])
def A247 : U := ⟨247, C247⟩
/- 248: rampart/ipv4.checks$5 -/
def s248 (c165 : T 165) : S := .seq (.reg [mK 2 (.b false)]) (.seq (.reg [mM 3 0, mU 4 (.lenS 3), mM 5 0, mQ 6 165 [5] c165, mB .lss 7 4 6, mM 2 7]) .ret)
def r248 : List ARes := [.t 2]
theorem k248 (c165 : T 165) : compFn Tryz.prog 248 = some ⟨8, (s248 c165).er, r248⟩ := by kernel_rfl
abbrev q248 (O : Ops Tryz.prog) (c165 : T 165) := curF 1 (sfn O (s248 c165) r248)
def g248 : { g // g = q248 } := by
  have h : q248 = q248 := rfl
  conv at h => rhs; reduce
  exact ⟨_, h.symm⟩
def C248 : T 248 := mkRun 1 (k248 C165) (by decide) (g248.1 (theOps Tryz.prog) C165) (by rw [g248.2])
def A248 : U := ⟨248, C248⟩
/- 249: rampart/ipv4.checks$6 -/
def s249 : S := .seq (.reg [mK 2 (.b false)]) (.seq (.reg [mM 3 0, mU 4 (.idxStr 3 (.c 6)), mB .shr 5 4 (.c (.i .u64 7)), mB .eql 6 5 (.c (.i .u8 1)), mM 2 6]) .ret)
def r249 : List ARes := [.t 2]
theorem k249 : compFn Tryz.prog 249 = some ⟨7, (s249).er, r249⟩ := by kernel_rfl
abbrev q249 (O : Ops Tryz.prog) := curF 1 (sfn O (s249) r249)
def g249 : { g // g = q249 } := by
  have h : q249 = q249 := rfl
  conv at h => rhs; reduce
  exact ⟨_, h.symm⟩
def C249 : T 249 := mkRun 1 (k249) (by decide) (g249.1 (theOps Tryz.prog)) (by rw [g249.2])
def A249 : U := ⟨249, C249⟩
/- 250: rampart/ipv4.checks$7 -/
def s250 (c164 : T 164) (c165 : T 165) : S := .seq (.reg [mK 2 (.b false)]) (.seq (.reg [mM 3 0, mQ 4 165 [3] c165, mM 5 0, mQ 6 164 [5] c164, mB .sub 7 4 6, mB .gtr 8 7 (.c 2000), mM 2 8]) .ret)
def r250 : List ARes := [.t 2]
theorem k250 (c164 : T 164) (c165 : T 165) : compFn Tryz.prog 250 = some ⟨9, (s250 c164 c165).er, r250⟩ := by kernel_rfl
abbrev q250 (O : Ops Tryz.prog) (c164 : T 164) (c165 : T 165) := curF 1 (sfn O (s250 c164 c165) r250)
def g250 : { g // g = q250 } := by
  have h : q250 = q250 := rfl
  conv at h => rhs; reduce
  exact ⟨_, h.symm⟩
def C250 : T 250 := mkRun 1 (k250 C164 C165) (by decide) (g250.1 (theOps Tryz.prog) C164 C165) (by rw [g250.2])
def A250 : U := ⟨250, C250⟩
/- 251: rampart/ipv4.checks$8 -/
def s251 (c164 : T 164) (c172 : T 172) : S := .seq (.reg [mK 2 (.b false)]) (.seq (.reg [mM 3 0, mM 4 0, mQ 5 164 [4] c164, mU 6 (.slStr 3 none (some 5)), mN 7 (.bslice 1 1 [.s []] [(0, (1, 6))]), mQ 8 172 [7] c172, mB .neq 9 8 (.c 0), mM 2 9]) .ret)
def r251 : List ARes := [.t 2]
theorem k251 (c164 : T 164) (c172 : T 172) : compFn Tryz.prog 251 = some ⟨10, (s251 c164 c172).er, r251⟩ := by kernel_rfl
abbrev q251 (O : Ops Tryz.prog) (c164 : T 164) (c172 : T 172) := curF 1 (sfn O (s251 c164 c172) r251)
def g251 : { g // g = q251 } := by
  have h : q251 = q251 := rfl
  conv at h => rhs; reduce
  exact ⟨_, h.symm⟩
def C251 : T 251 := mkRun 1 (k251 C164 C172) (by decide) (g251.1 (theOps Tryz.prog) C164 C172) (by rw [g251.2])
def A251 : U := ⟨251, C251⟩
/- 101: rampart/ipv4.Get -/
def s101 (c162 : T 162) (c163 : T 163) (c164 : T 164) (c165 : T 165) (a170 : U) (a171 : U) (a174 : U) (a175 : U) (a244 : U) (a245 : U) (a246 : U) (a247 : U) (a248 : U) (a249 : U) (a250 : U) (a251 : U) : S := .seq (.reg [mN 2 (.newz [0, 0, .b false, .b false, 0, 0, 0, .i .u32 0, .i .u32 0, .s []]), mK 3 (.s []), mK 4 0]) (.join [0, 2] [] (.join [0, 2, 9, 10, 11] [] (.reg [mQ 9 163 [] c163, mU 10 (.lenSl 9), mK 11 0]) (.block 0 (.loop [11] [0, 2, 9, 10] (.seq (.reg [mB .lss 12 11 10]) (.seq (.cond 12 .skip (.exit 0)) (.seq (.block 1 (.join [0, 2, 6, 9, 10, 11] [] (.reg [mU 13 (.idxAddrSl 2 9 11), mR 14 (.ldN 2 13), mN 6 (.newz [.nf, 0]), mZ (.st 2 6 14)]) (.seq (.reg [mF 0 15 6, mL 16 15, mM 17 0, mV 18 16 [17] [a170, a171, a174, a175, a244, a245, a246, a247, a248, a249, a250, a251] []]) (.cond 18 (.seq (.draw 0 [⟨[], [⟨0, ⟨some 19, .pure (.build [0, 0, .b false, .b false, 0, 0, 0, .i .u32 0, .i .u32 0, .s []] []), none⟩, 0⟩, ⟨1, ⟨some 20, .pure (.fieldAddr 1 6), none⟩, 1⟩, ⟨2, ⟨some 21, .read (.ld1 20), none⟩, 1⟩], some (mZ (.st 10 2 19))⟩, ⟨[⟨some 21, .read (.ld1 20), none⟩], [⟨4, ⟨some 3, .pure (.mv (.c (.s []))), none⟩, 1⟩, ⟨5, ⟨some 4, .pure (.mv 21), none⟩, 1⟩], none⟩]) .ret) .skip)))) (.reg [mB .add 22 11 (.c 1), mM 11 22]))))))) (.join [0, 2, 7] [] (.reg [mM 23 0, mU 24 (.slStr 23 (some (.c 6)) (some (.c 8))), mQ 25 162 [24] c162, mM 7 25]) (.join [0, 2, 8] [] (.draw 36 [⟨[], [⟨0, ⟨some 26, .pure (.mv 0), none⟩, 4⟩, ⟨1, ⟨some 27, .pure (.idxStr 26 (.c 1)), none⟩, 4⟩, ⟨2, ⟨some 28, .pure (.conv .i64 27), none⟩, 4⟩, ⟨3, ⟨some 29, .pure (.mv 0), none⟩, 0⟩, ⟨4, ⟨some 30, .pure (.slStr 29 (some (.c 4)) (some (.c 6))), none⟩, 0⟩, ⟨6, ⟨some 32, .pure (.mv 7), none⟩, 4⟩, ⟨7, ⟨some 33, .pure (.bin .and 32 (.c 8192)), none⟩, 4⟩, ⟨8, ⟨some 34, .pure (.bin .neq 33 (.c 0)), none⟩, 4⟩, ⟨9, ⟨some 35, .pure (.mv 7), none⟩, 4⟩, ⟨10, ⟨some 36, .pure (.bin .and 35 (.c 16384)), none⟩, 4⟩, ⟨11, ⟨some 37, .pure (.bin .neq 36 (.c 0)), none⟩, 4⟩, ⟨12, ⟨some 38, .pure (.mv 7), none⟩, 4⟩, ⟨13, ⟨some 39, .pure (.bin .and 38 (.c 8191)), none⟩, 4⟩, ⟨14, ⟨some 40, .pure (.bin .mul 39 (.c 8)), none⟩, 4⟩, ⟨15, ⟨some 41, .pure (.mv 0), none⟩, 4⟩, ⟨16, ⟨some 42, .pure (.idxStr 41 (.c 8)), none⟩, 4⟩, ⟨17, ⟨some 43, .pure (.conv .i64 42), none⟩, 4⟩, ⟨18, ⟨some 44, .pure (.mv 0), none⟩, 4⟩, ⟨19, ⟨some 45, .pure (.idxStr 44 (.c 9)), none⟩, 4⟩, ⟨20, ⟨some 46, .pure (.conv .i64 45), none⟩, 4⟩, ⟨21, ⟨some 47, .pure (.mv 0), none⟩, 1⟩, ⟨22, ⟨some 48, .pure (.slStr 47 (some (.c 12)) (some (.c 16))), none⟩, 1⟩, ⟨25, ⟨some 51, .pure (.mv 0), none⟩, 2⟩, ⟨26, ⟨some 52, .pure (.slStr 51 (some (.c 16)) (some (.c 20))), none⟩, 2⟩, ⟨29, ⟨some 55, .pure (.mv 0), none⟩, 4⟩, ⟨30, ⟨some 56, .pure (.mv 0), none⟩, 3⟩, ⟨34, ⟨some 8, .alloc (.newz [0, 0, .b false, .b false, 0, 0, 0, .i .u32 0, .i .u32 0, .s []]), none⟩, 4⟩], some (mQ 31 162 [30] c162)⟩, ⟨[], [], some (mQ 49 162 [48] c162)⟩, ⟨[], [⟨24, ⟨some 50, .pure (.conv .u32 49), none⟩, 4⟩], some (mQ 53 162 [52] c162)⟩, ⟨[], [⟨28, ⟨some 54, .pure (.conv .u32 53), none⟩, 4⟩], some (mQ 57 164 [56] c164)⟩, ⟨[], [⟨32, ⟨some 58, .pure (.slStr 55 (some (.c 20)) (some 57)), none⟩, 4⟩, ⟨33, ⟨some 59, .pure (.build [0, 0, .b false, .b false, 0, 0, 0, .i .u32 0, .i .u32 0, .s []] [(0, (1, 28)), (1, (1, 31)), (2, (1, 34)), (3, (1, 37)), (4, (1, 40)), (5, (1, 43)), (6, (1, 46)), (7, (1, 50)), (8, (1, 54)), (9, (1, 58))]), none⟩, 4⟩], some (mZ (.st 10 8 59))⟩, ⟨[], [], none⟩]) (.seq (.draw 0 [⟨[], [⟨0, ⟨some 60, .read (.ldN 10 8), none⟩, 2⟩, ⟨1, ⟨some 61, .pure (.mv 0), none⟩, 3⟩, ⟨2, ⟨some 62, .pure (.mv 0), none⟩, 0⟩, ⟨4, ⟨some 64, .pure (.mv 0), none⟩, 1⟩], some (mQ 63 164 [62] c164)⟩, ⟨[⟨some 60, .read (.ldN 10 8), none⟩], [], some (mQ 65 165 [64] c165)⟩, ⟨[⟨some 60, .read (.ldN 10 8), none⟩], [⟨6, ⟨some 66, .pure (.slStr 61 (some 63) (some 65)), none⟩, 3⟩], some (mZ (.st 10 2 60))⟩, ⟨[], [⟨8, ⟨some 3, .pure (.mv 66), none⟩, 3⟩, ⟨9, ⟨some 4, .pure (.mv (.c 0)), none⟩, 3⟩], none⟩]) .ret))))
def r101 : List ARes := [.c true 10 2, .t 3, .t 4]
theorem k101 (c162 : T 162) (c163 : T 163) (c164 : T 164) (c165 : T 165) (a170 : U) (a171 : U) (a174 : U) (a175 : U) (a244 : U) (a245 : U) (a246 : U) (a247 : U) (a248 : U) (a249 : U) (a250 : U) (a251 : U) : compFn Tryz.prog 101 = some ⟨67, (s101 c162 c163 c164 c165 a170 a171 a174 a175 a244 a245 a246 a247 a248 a249 a250 a251).er, r101⟩ := by kernel_rfl
abbrev q101 (O : Ops Tryz.prog) (c162 : T 162) (c163 : T 163) (c164 : T 164) (c165 : T 165) (a170 : U) (a171 : U) (a174 : U) (a175 : U) (a244 : U) (a245 : U) (a246 : U) (a247 : U) (a248 : U) (a249 : U) (a250 : U) (a251 : U) := curF 1 (sfn O (s101 c162 c163 c164 c165 a170 a171 a174 a175 a244 a245 a246 a247 a248 a249 a250 a251) r101)
def g101 : { g // g = q101 } := by
  have h : q101 = q101 := rfl
  conv at h => rhs; reduce
  exact ⟨_, h.symm⟩
def C101 : T 101 := mkRun 1 (k101 C162 C163 C164 C165 A170 A171 A174 A175 A244 A245 A246 A247 A248 A249 A250 A251) (by decide) (g101.1 (theOps Tryz.prog) C162 C163 C164 C165 A170 A171 A174 A175 A244 A245 A246 A247 A248 A249 A250 A251) (by rw [g101.2])
/- 50: (*rampart/engine.Engine).datagram -/
def s50 (c98 : T 98) (c101 : T 101) : S := .seq (.reg [mK 4 (.b false)]) (.join [0, 1, 5, 6, 7] [] (.reg [mM 9 1, mU 10 (.nilCheck 9), mF 25 11 10, mL 12 11, mQ 13 101 [12] c101, mM 8 13, mU 14 (.extract 0 8), mU 15 (.extract 1 8), mU 16 (.extract 2 8), mN 5 (.newz [0, 0, .b false, .b false, 0, 0, 0, .i .u32 0, .i .u32 0, .s []]), mZ (.st 10 5 14), mM 6 15, mM 7 16]) (.seq (.seq (.reg [mM 17 7, mB .neq 18 17 (.c 0)]) (.cond 18 (.seq (.reg [mM 19 0, mU 20 (.nilCheck 19), mF 15 21 20, mF 2 22 21, mQ 23 98 [22] c98, mM 4 23]) .ret) .skip)) (.seq (.reg [mM 24 1, mM 25 1, mR 26 (.ldN 10 5), mM 27 6, mU 28 (.nilCheck 24), mF 15 29 28, mZ (.st 10 29 26), mU 30 (.nilCheck 25), mF 25 31 30, mZ (.st 1 31 27)]) (.seq (.reg [mK 4 (.b true)]) .ret))))
def r50 : List ARes := [.t 4]
theorem k50 (c98 : T 98) (c101 : T 101) : compFn Tryz.prog 50 = some ⟨32, (s50 c98 c101).er, r50⟩ := by kernel_rfl
abbrev q50 (O : Ops Tryz.prog) (c98 : T 98) (c101 : T 101) := curF 2 (sfn O (s50 c98 c101) r50)
def g50 : { g // g = q50 } := by
  have h : q50 = q50 := rfl
  conv at h => rhs; reduce
  exact ⟨_, h.symm⟩
def C50 : T 50 := mkRun 2 (k50 C98 C101) (by decide) (g50.1 (theOps Tryz.prog) C98 C101) (by rw [g50.2])
def A50 : U := ⟨50, C50⟩
/- 166: (*rampart/defrag.entry).trim -/
def s166 : S := .join [0, 7] [] (.reg [mM 3 0, mU 4 (.nilCheck 3), mF 0 5 4, mL 6 5, mY 7 (.rangeM 6)]) (.block 0 (.loop [] [0, 7] (.join [0, 7, 9] [] (.reg [mY 8 (.nextM 7), mU 9 (.extract 0 8)]) (.seq (.cond 9 .skip (.exit 0)) (.block 1 (.seq (.reg [mY 10 (.entryM 7), mU 11 (.extract 0 10), mM 2 11]) (.seq (.reg [mM 12 2, mM 13 0, mU 14 (.nilCheck 13), mF 1 15 14, mL 16 15, mB .geq 17 12 16]) (.cond 17 (.reg [mM 18 0, mU 19 (.nilCheck 18), mF 0 20 19, mL 21 20, mM 22 2, mZ (.del (.one .i) 21 22)]) .skip))))))))
def r166 : List ARes := []
theorem k166 : compFn Tryz.prog 166 = some ⟨23, (s166).er, r166⟩ := by kernel_rfl
abbrev q166 (O : Ops Tryz.prog) := curF 1 (sfn O (s166) r166)
def g166 : { g // g = q166 } := by
  have h : q166 = q166 := rfl
  conv at h => rhs; reduce
  exact ⟨_, h.symm⟩
def C166 : T 166 := mkRun 1 (k166) (by decide) (g166.1 (theOps Tryz.prog)) (by rw [g166.2])
/- 167: (*rampart/defrag.entry).whole -/
def s167 : S := .seq (.reg [mK 2 (.s []), mK 3 (.b false)]) (.join [0] [] (.seq (.draw 0 [⟨[], [⟨0, ⟨some 6, .pure (.mv 0), none⟩, 0⟩, ⟨1, ⟨some 7, .pure (.nilCheck 6), none⟩, 0⟩, ⟨2, ⟨some 8, .pure (.fieldAddr 1 7), none⟩, 0⟩, ⟨3, ⟨some 9, .read (.ld1 8), none⟩, 0⟩, ⟨4, ⟨some 10, .pure (.bin .eql 9 (.c 0)), none⟩, 0⟩, ⟨5, ⟨some 11, .pure (.mv 10), none⟩, 0⟩, ⟨6, ⟨some 12, .pure (.mv 0), some (11, false)⟩, 0⟩, ⟨7, ⟨some 13, .pure (.nilCheck 12), some (11, false)⟩, 0⟩, ⟨8, ⟨some 14, .pure (.fieldAddr 0 13), some (11, false)⟩, 0⟩, ⟨9, ⟨some 15, .read (.ld1 14), some (11, false)⟩, 0⟩, ⟨10, ⟨some 16, .read (.lenM 15), some (11, false)⟩, 0⟩, ⟨11, ⟨some 17, .pure (.mv 0), some (11, false)⟩, 0⟩, ⟨12, ⟨some 18, .pure (.nilCheck 17), some (11, false)⟩, 0⟩, ⟨13, ⟨some 19, .pure (.fieldAddr 1 18), some (11, false)⟩, 0⟩, ⟨14, ⟨some 20, .read (.ld1 19), some (11, false)⟩, 0⟩, ⟨15, ⟨some 21, .pure (.bin .lss 16 20), some (11, false)⟩, 0⟩, ⟨16, ⟨some 22, .pure (.pick 11 (.c (.b true)) 21), none⟩, 0⟩], none⟩]) (.cond 22 (.seq (.reg [mK 2 (.s []), mK 3 (.b false)]) .ret) .skip)) (.join [0, 4] [] (.reg [mM 23 0, mU 24 (.nilCheck 23), mF 1 25 24, mL 26 25, mN 27 (.mkslice 1 1 [.i .u8 0] 26 26), mM 4 27]) (.seq (.seq (.reg [mM 28 4, mU 29 (.lenSl 28), mK 30 0]) (.block 0 (.loop [30] [0, 4, 29] (.seq (.reg [mB .lss 31 30 29]) (.seq (.cond 31 .skip (.exit 0)) (.seq (.block 1 (.seq (.reg [mM 32 30, mM 5 32]) (.reg [mM 33 4, mM 34 5, mM 35 0, mU 36 (.nilCheck 35), mF 0 37 36, mL 38 37, mM 39 5, mR 40 (.lookup (.one .i) (.i .u8 0) false 38 39), mU 41 (.idxAddrSl 1 33 34), mZ (.st 1 41 40)]))) (.reg [mB .add 42 30 (.c 1), mM 30 42]))))))) (.seq (.reg [mM 43 4, mR 44 (.b2s 43), mM 2 44, mK 3 (.b true)]) .ret))))
def r167 : List ARes := [.t 2, .t 3]
theorem k167 : compFn Tryz.prog 167 = some ⟨45, (s167).er, r167⟩ := by kernel_rfl
abbrev q167 (O : Ops Tryz.prog) := curF 1 (sfn O (s167) r167)
def g167 : { g // g = q167 } := by
  have h : q167 = q167 := rfl
  conv at h => rhs; reduce
  exact ⟨_, h.symm⟩
def C167 : T 167 := mkRun 1 (k167) (by decide) (g167.1 (theOps Tryz.prog)) (by rw [g167.2])
/- 102: (*rampart/defrag.Table).Add -/
def s102 (c166 : T 166) (c167 : T 167) : S := .seq (.reg [mN 4 (.box 1), mK 6 (.s []), mK 7 (.b false), mK 8 0]) (.join [0, 2, 4] [] (.seq (.reg [mF 2 15 4, mL 16 15, mU 17 (.un .not 16), mM 18 17, (mF 4 19 4).g 18 true, (mL 20 19).g 18 true, (mB .leq 21 20 (.c 0)).g 18 true, mU 22 (.pick 18 21 (.c (.b false)))]) (.cond 22 (.seq (.reg [mM 23 2, mM 6 23, mK 7 (.b true), mK 8 0]) .ret) .skip)) (.join [0, 2, 4, 9] [] (.reg [mF 7 24 4, mL 25 24, mF 8 26 4, mL 27 26, mF 6 28 4, mL 29 28, mF 1 30 4, mL 31 30, mU 32 (.build [.i .u32 0, .i .u32 0, 0, 0] [(0, (1, 25)), (1, (1, 27)), (2, (1, 29)), (3, (1, 31))]), mN 9 (.newz [.i .u32 0, .i .u32 0, 0, 0]), mZ (.st 4 9 32)]) (.join [0, 2, 4, 9, 10] [] (.draw 0 [⟨[], [⟨0, ⟨some 33, .pure (.mv 0), none⟩, 0⟩, ⟨1, ⟨some 34, .pure (.nilCheck 33), none⟩, 0⟩, ⟨2, ⟨some 35, .pure (.fieldAddr 2 34), none⟩, 0⟩, ⟨3, ⟨some 36, .read (.ld1 35), none⟩, 0⟩, ⟨4, ⟨some 37, .read (.ldN 4 9), none⟩, 0⟩, ⟨5, ⟨some 38, .read (.lookup (.flat [(0, .i), (1, .i), (2, .i), (3, .i)]) (.p none) false 36 37), none⟩, 0⟩, ⟨6, ⟨some 10, .pure (.mv 38), none⟩, 0⟩], none⟩]) (.join [0, 2, 4, 9, 10] [] (.block 0 (.join [0, 2, 4, 9, 10, 39] [] (.reg [mM 40 2, mB .eql 41 40 (.c (.s [])), mM 42 41, (mF 2 43 4).g 42 false, (mL 44 43).g 42 false, (mM 45 44).g 42 false, (mM 46 2).g 45 true, (mU 47 (.lenS 46)).g 45 true, (mB .rem 48 47 (.c 8)).g 45 true, (mB .neq 49 48 (.c 0)).g 45 true, (mU 50 (.pick 45 49 (.c (.b false)))).g 42 false, mU 51 (.pick 42 (.c (.b true)) 50), mM 52 51, (mF 4 53 4).g 52 false, (mL 54 53).g 52 false, (mB .lss 55 54 (.c 0)).g 52 false, mU 56 (.pick 52 (.c (.b true)) 55), mM 39 56]) (.cond 39 (.seq (.reg [mK 6 (.s []), mK 7 (.b false), mK 8 3]) .ret) (.join [0, 2, 4, 9, 10, 57] [] (.reg [mM 58 2, mU 59 (.lenS 58), mB .gtr 60 59 (.c 2000), mM 61 60, (mF 4 62 4).g 61 false, (mL 63 62).g 61 false, (mM 64 2).g 61 false, (mU 65 (.lenS 64)).g 61 false, (mB .sub 66 (.c 2000) 65).g 61 false, (mB .gtr 67 63 66).g 61 false, mU 68 (.pick 61 (.c (.b true)) 67), mM 57 68]) (.cond 57 (.seq (.draw 0 [⟨[], [⟨0, ⟨some 69, .pure (.mv 0), none⟩, 0⟩, ⟨1, ⟨some 70, .pure (.nilCheck 69), none⟩, 0⟩, ⟨2, ⟨some 71, .pure (.fieldAddr 2 70), none⟩, 0⟩, ⟨3, ⟨some 72, .read (.ld1 71), none⟩, 0⟩, ⟨4, ⟨some 73, .read (.ldN 4 9), none⟩, 0⟩], some (mZ (.del (.flat [(0, .i), (1, .i), (2, .i), (3, .i)]) 72 73))⟩, ⟨[], [], none⟩]) (.seq (.reg [mK 6 (.s []), mK 7 (.b false), mK 8 5]) .ret)) (.join [0, 2, 4, 9, 10, 74] [] (.draw 0 [⟨[], [⟨0, ⟨some 75, .pure (.mv 10), none⟩, 0⟩, ⟨1, ⟨some 76, .read (.peq false 75 (.c (.p none))), none⟩, 0⟩, ⟨2, ⟨some 77, .pure (.mv 76), none⟩, 0⟩, ⟨3, ⟨some 78, .pure (.mv 0), some (77, true)⟩, 0⟩, ⟨4, ⟨some 79, .pure (.nilCheck 78), some (77, true)⟩, 0⟩, ⟨5, ⟨some 80, .pure (.fieldAddr 2 79), some (77, true)⟩, 0⟩, ⟨6, ⟨some 81, .read (.ld1 80), some (77, true)⟩, 0⟩, ⟨7, ⟨some 82, .read (.lenM 81), some (77, true)⟩, 0⟩, ⟨8, ⟨some 83, .pure (.mv 0), some (77, true)⟩, 0⟩, ⟨9, ⟨some 84, .pure (.nilCheck 83), some (77, true)⟩, 0⟩, ⟨10, ⟨some 85, .pure (.fieldAddr 0 84), some (77, true)⟩, 0⟩, ⟨11, ⟨some 86, .read (.ld1 85), some (77, true)⟩, 0⟩, ⟨12, ⟨some 87, .pure (.bin .geq 82 86), some (77, true)⟩, 0⟩, ⟨13, ⟨some 88, .pure (.pick 77 87 (.c (.b false))), none⟩, 0⟩, ⟨14, ⟨some 74, .pure (.mv 88), none⟩, 0⟩], none⟩]) (.cond 74 (.seq (.reg [mK 6 (.s []), mK 7 (.b false), mK 8 10]) .ret) (.seq (.reg [mM 90 10, mR 91 (.peq false 90 (.c (.p none))), mM 89 91]) (.cond 89 (.seq (.reg [mN 92 .mkmap, mU 93 (.build [.m none, 0, 0] [(0, (1, 92))]), mN 94 (.box 93), mM 10 94]) (.draw 0 [⟨[], [⟨0, ⟨some 95, .pure (.mv 0), none⟩, 0⟩, ⟨1, ⟨some 96, .pure (.nilCheck 95), none⟩, 0⟩, ⟨2, ⟨some 97, .pure (.fieldAddr 2 96), none⟩, 0⟩, ⟨3, ⟨some 98, .read (.ld1 97), none⟩, 0⟩, ⟨4, ⟨some 99, .read (.ldN 4 9), none⟩, 0⟩, ⟨5, ⟨some 100, .pure (.mv 10), none⟩, 0⟩], some (mZ (.mapUpd (.flat [(0, .i), (1, .i), (2, .i), (3, .i)]) 98 99 100))⟩, ⟨[], [], none⟩])) .skip))))))))) (.join [0, 2, 4, 9, 10] [] (.seq (.reg [mF 2 101 4, mL 102 101, mU 103 (.un .not 102), mM 104 103, (mM 105 10).g 104 true, (mU 106 (.nilCheck 105)).g 104 true, (mF 1 107 106).g 104 true, (mL 108 107).g 104 true, (mB .eql 109 108 (.c 0)).g 104 true, mU 110 (.pick 104 109 (.c (.b false)))]) (.cond 110 (.seq (.reg [mM 111 10, mF 4 112 4, mL 113 112, mM 114 2, mU 115 (.lenS 114), mB .add 116 113 115, mU 117 (.nilCheck 111), mF 1 118 117, mZ (.st 1 118 116)]) (.reg [mM 119 10, mQ 120 166 [119] c166])) .skip)) (.join [0, 9, 10] [] (.seq (.reg [mM 121 2, mU 122 (.lenS 121), mK 123 0]) (.block 1 (.loop [123] [0, 2, 4, 9, 10, 122] (.seq (.reg [mB .lss 124 123 122]) (.seq (.cond 124 .skip (.exit 1)) (.join [0, 2, 4, 9, 10, 122, 123] [] (.block 2 (.seq (.reg [mM 125 123, mM 11 125]) (.join [0, 2, 4, 9, 10, 11, 12, 122, 123] [] (.reg [mF 4 126 4, mL 127 126, mM 128 11, mB .add 129 127 128, mM 12 129]) (.join [0, 2, 4, 9, 10, 11, 12, 14, 122, 123] [] (.reg [mM 131 10, mU 132 (.nilCheck 131), mF 0 133 132, mL 134 133, mM 135 12, mR 136 (.lookup (.one .i) (.i .u8 0) true 134 135), mM 130 136, mU 137 (.extract 0 130), mU 138 (.extract 1 130), mM 13 137, mM 14 138]) (.join [0, 2, 4, 9, 10, 11, 12, 122, 123, 155] [] (.reg [mM 139 14, mU 140 (.un .not 139), mM 141 140, (mM 142 10).g 141 true, (mU 143 (.nilCheck 142)).g 141 true, (mF 1 144 143).g 141 true, (mL 145 144).g 141 true, (mB .eql 146 145 (.c 0)).g 141 true, (mM 147 146).g 141 true, (mM 148 12).g 147 false, (mM 149 10).g 147 false, (mU 150 (.nilCheck 149)).g 147 false, (mF 1 151 150).g 147 false, (mL 152 151).g 147 false, (mB .lss 153 148 152).g 147 false, (mU 154 (.pick 147 (.c (.b true)) 153)).g 141 true, mU 155 (.pick 141 154 (.c (.b false)))]) (.cond 155 (.draw 0 [⟨[], [⟨0, ⟨some 156, .pure (.mv 10), none⟩, 0⟩, ⟨1, ⟨some 157, .pure (.nilCheck 156), none⟩, 0⟩, ⟨2, ⟨some 158, .pure (.fieldAddr 0 157), none⟩, 0⟩, ⟨3, ⟨some 159, .read (.ld1 158), none⟩, 0⟩, ⟨4, ⟨some 160, .pure (.mv 12), none⟩, 0⟩, ⟨5, ⟨some 161, .pure (.mv 2), none⟩, 0⟩, ⟨6, ⟨some 162, .pure (.mv 11), none⟩, 0⟩, ⟨7, ⟨some 163, .pure (.idxStr 161 162), none⟩, 0⟩], some (mZ (.mapUpd (.one .i) 159 160 163))⟩, ⟨[], [], none⟩]) .skip)))))) (.reg [mB .add 164 123 (.c 1), mM 123 164]))))))) (.join [6, 7] [] (.seq (.reg [mM 166 10, mQ 167 167 [166] c167, mM 165 167, mU 168 (.extract 0 165), mU 169 (.extract 1 165), mM 6 168, mM 7 169]) (.seq (.reg [mM 170 7]) (.cond 170 (.draw 0 [⟨[], [⟨0, ⟨some 171, .pure (.mv 0), none⟩, 0⟩, ⟨1, ⟨some 172, .pure (.nilCheck 171), none⟩, 0⟩, ⟨2, ⟨some 173, .pure (.fieldAddr 2 172), none⟩, 0⟩, ⟨3, ⟨some 174, .read (.ld1 173), none⟩, 0⟩, ⟨4, ⟨some 175, .read (.ldN 4 9), none⟩, 0⟩], some (mZ (.del (.flat [(0, .i), (1, .i), (2, .i), (3, .i)]) 174 175))⟩, ⟨[], [], none⟩]) .skip))) (.seq (.reg [mM 176 6, mM 177 7, mM 6 176, mM 7 177, mK 8 0]) .ret))))))))
def r102 : List ARes := [.t 6, .t 7, .t 8]
theorem k102 (c166 : T 166) (c167 : T 167) : compFn Tryz.prog 102 = some ⟨178, (s102 c166 c167).er, r102⟩ := by kernel_rfl
abbrev q102 (O : Ops Tryz.prog) (c166 : T 166) (c167 : T 167) := curF 3 (sfn O (s102 c166 c167) r102)
def g102 : { g // g = q102 } := by
  have h : q102 = q102 := rfl
  conv at h => rhs; reduce
  exact ⟨_, h.symm⟩
def C102 : T 102 := mkRun 3 (k102 C166 C167) (by decide) (g102.1 (theOps Tryz.prog) C166 C167) (by rw [g102.2])
/- 51: (*rampart/engine.Engine).whole -/
def s51 (c98 : T 98) (c102 : T 102) : S := .seq (.reg [mK 4 (.b false)]) (.join [0, 1] [] (.seq (.reg [mM 8 1, mU 9 (.nilCheck 8), mF 15 10 9, mF 2 11 10, mL 12 11, mU 13 (.un .not 12), mM 14 13, (mM 15 1).g 14 true, (mU 16 (.nilCheck 15)).g 14 true, (mF 15 17 16).g 14 true, (mF 4 18 17).g 14 true, (mL 19 18).g 14 true, (mB .eql 20 19 (.c 0)).g 14 true, mU 21 (.pick 14 20 (.c (.b false)))]) (.cond 21 (.seq (.reg [mK 4 (.b true)]) .ret) .skip)) (.join [0, 1] [] (.reg [mM 22 0, mU 23 (.nilCheck 22), mF 15 24 23, mF 12 25 24, mL 26 25, mB .add 27 26 (.c 1), mU 28 (.nilCheck 22), mF 15 29 28, mF 12 30 29, mZ (.st 1 30 27)]) (.join [0, 1, 5, 6, 7] [] (.draw 0 [⟨[], [⟨0, ⟨some 32, .pure (.mv 0), none⟩, 0⟩, ⟨1, ⟨some 33, .pure (.nilCheck 32), none⟩, 0⟩, ⟨2, ⟨some 34, .pure (.fieldAddr 11 33), none⟩, 0⟩, ⟨3, ⟨some 35, .read (.ld1 34), none⟩, 0⟩, ⟨4, ⟨some 36, .pure (.mv 1), none⟩, 0⟩, ⟨5, ⟨some 37, .pure (.nilCheck 36), none⟩, 0⟩, ⟨6, ⟨some 38, .pure (.fieldAddr 15 37), none⟩, 0⟩, ⟨7, ⟨some 39, .read (.ldN 10 38), none⟩, 0⟩, ⟨8, ⟨some 40, .pure (.mv 1), none⟩, 0⟩, ⟨9, ⟨some 41, .pure (.nilCheck 40), none⟩, 0⟩, ⟨10, ⟨some 42, .pure (.fieldAddr 25 41), none⟩, 0⟩, ⟨11, ⟨some 43, .read (.ld1 42), none⟩, 0⟩], some (mQ 44 102 [35, 39, 43] c102)⟩, ⟨[], [⟨13, ⟨some 31, .pure (.mv 44), none⟩, 1⟩, ⟨14, ⟨some 45, .pure (.extract 0 31), none⟩, 1⟩, ⟨15, ⟨some 46, .pure (.extract 1 31), none⟩, 1⟩, ⟨16, ⟨some 47, .pure (.extract 2 31), none⟩, 1⟩, ⟨17, ⟨some 5, .pure (.mv 45), none⟩, 1⟩, ⟨18, ⟨some 6, .pure (.mv 46), none⟩, 1⟩, ⟨19, ⟨some 7, .pure (.mv 47), none⟩, 1⟩], none⟩]) (.join [1, 5, 6] [] (.block 0 (.seq (.reg [mM 49 7, mB .eql 50 49 (.c 10), mM 48 50]) (.cond 48 (.seq (.reg [mM 51 0, mU 52 (.nilCheck 51), mF 15 53 52, mF 8 54 53, mQ 55 98 [54] c98, mM 4 55]) .ret) (.seq (.reg [mM 57 7, mB .neq 58 57 (.c 0), mM 56 58]) (.cond 56 (.seq (.reg [mM 59 0, mU 60 (.nilCheck 59), mF 15 61 60, mF 2 62 61, mQ 63 98 [62] c98, mM 4 63]) .ret) .skip))))) (.seq (.reg [mM 64 1, mM 65 1, mM 66 1, mM 67 5, mU 68 (.nilCheck 64), mF 25 69 68, mZ (.st 1 69 67), mU 70 (.nilCheck 65), mF 15 71 70, mF 2 72 71, mZ (.st 1 72 (.c (.b false))), mU 73 (.nilCheck 66), mF 15 74 73, mF 4 75 74, mZ (.st 1 75 (.c 0))]) (.seq (.reg [mM 76 6, mM 4 76]) .ret))))))
def r51 : List ARes := [.t 4]
theorem k51 (c98 : T 98) (c102 : T 102) : compFn Tryz.prog 51 = some ⟨77, (s51 c98 c102).er, r51⟩ := by kernel_rfl
abbrev q51 (O : Ops Tryz.prog) (c98 : T 98) (c102 : T 102) := curF 2 (sfn O (s51 c98 c102) r51)
def g51 : { g // g = q51 } := by
  have h : q51 = q51 := rfl
  conv at h => rhs; reduce
  exact ⟨_, h.symm⟩
def C51 : T 51 := mkRun 2 (k51 C98 C102) (by decide) (g51.1 (theOps Tryz.prog) C98 C102) (by rw [g51.2])
def A51 : U := ⟨51, C51⟩
/- 252: (rampart/tcp.head).pseudo -/
def s252 (c254 : T 254) : S := .seq (.reg [mN 2 (.box 0), mK 4 (.s [])]) (.seq (.draw 0 [⟨[], [⟨0, ⟨some 5, .pure (.fieldAddr 7 2), none⟩, 0⟩, ⟨1, ⟨some 6, .read (.ld1 5), none⟩, 0⟩, ⟨2, ⟨some 7, .pure (.conv .i64 6), none⟩, 0⟩, ⟨4, ⟨some 9, .pure (.fieldAddr 8 2), none⟩, 1⟩, ⟨5, ⟨some 10, .read (.ld1 9), none⟩, 1⟩, ⟨6, ⟨some 11, .pure (.conv .i64 10), none⟩, 1⟩, ⟨12, ⟨some 17, .pure (.mv 1), none⟩, 3⟩], some (mQ 8 254 [7, .c 4] c254)⟩, ⟨[⟨some 10, .read (.ld1 9), none⟩], [], some (mQ 12 254 [11, .c 4] c254)⟩, ⟨[], [⟨8, ⟨some 13, .pure (.bin .add 8 12), none⟩, 4⟩, ⟨9, ⟨some 14, .pure (.bin .add 13 (.c (.s [0]))), none⟩, 4⟩], some (mQ 15 254 [.c 6, .c 1] c254)⟩, ⟨[], [⟨11, ⟨some 16, .pure (.bin .add 14 15), none⟩, 4⟩], some (mQ 18 254 [17, .c 2] c254)⟩, ⟨[], [⟨14, ⟨some 19, .pure (.bin .add 16 18), none⟩, 4⟩, ⟨15, ⟨some 4, .pure (.mv 19), none⟩, 4⟩], none⟩]) .ret)
def r252 : List ARes := [.t 4]
theorem k252 (c254 : T 254) : compFn Tryz.prog 252 = some ⟨20, (s252 c254).er, r252⟩ := by kernel_rfl
abbrev q252 (O : Ops Tryz.prog) (c254 : T 254) := curF 2 (sfn O (s252 c254) r252)
def g252 : { g // g = q252 } := by
  have h : q252 = q252 := rfl
  conv at h => rhs; reduce
  exact ⟨_, h.symm⟩
def C252 : T 252 := mkRun 2 (k252 C254) (by decide) (g252.1 (theOps Tryz.prog) C254) (by rw [g252.2])
/- 168: rampart/tcp.wrong -/
def s168 (c172 : T 172) (c252 : T 252) : S := .seq (.reg [mN 2 (.box 0), mK 4 0]) (.join [1, 2] [] (.seq (.reg [mM 6 1, mU 7 (.lenS 6), mB .lss 8 7 (.c 20)]) (.cond 8 (.seq (.reg [mK 4 2]) .ret) .skip)) (.join [1, 2, 5] [] (.reg [mM 9 1, mU 10 (.idxStr 9 (.c 12)), mU 11 (.conv .i64 10), mB .shr 12 11 (.c (.i .u64 4)), mM 5 12]) (.seq (.block 0 (.seq (.reg [mM 14 5, mB .lss 15 14 (.c 5), mM 13 15]) (.cond 13 (.seq (.reg [mK 4 3]) .ret) (.join [1, 2, 16] [] (.reg [mM 17 1, mU 18 (.lenS 17), mM 19 5, mB .mul 20 19 (.c 4), mB .lss 21 18 20, mM 16 21]) (.cond 16 (.seq (.reg [mK 4 2]) .ret) (.seq (.reg [mM 23 1, mU 24 (.idxStr 23 (.c 12)), mB .and 25 24 (.c (.i .u8 15)), mB .neq 26 25 (.c (.i .u8 0)), mM 27 26, (mM 28 1).g 27 false, (mU 29 (.idxStr 28 (.c 13))).g 27 false, (mB .gtr 30 29 (.c (.i .u8 63))).g 27 false, mU 31 (.pick 27 (.c (.b true)) 30), mM 22 31]) (.cond 22 (.seq (.reg [mK 4 3]) .ret) (.seq (.reg [mM 33 1, mU 34 (.lenS 33), mB .gtr 35 34 (.c 2000), mM 32 35]) (.cond 32 (.seq (.reg [mK 4 5]) .ret) (.seq (.reg [mR 37 (.ldN 9 2), mM 38 1, mU 39 (.lenS 38), mQ 40 252 [37, 39] c252, mM 41 1, mN 42 (.bslice 1 2 [.s [], .s []] [(0, (1, 40)), (1, (1, 41))]), mQ 43 172 [42] c172, mB .neq 44 43 (.c 0), mM 36 44]) (.cond 36 (.seq (.reg [mK 4 4]) .ret) .skip))))))))))) (.seq (.reg [mK 4 0]) .ret))))
def r168 : List ARes := [.t 4]
theorem k168 (c172 : T 172) (c252 : T 252) : compFn Tryz.prog 168 = some ⟨45, (s168 c172 c252).er, r168⟩ := by kernel_rfl
abbrev q168 (O : Ops Tryz.prog) (c172 : T 172) (c252 : T 252) := curF 2 (sfn O (s168 c172 c252) r168)
def g168 : { g // g = q168 } := by
  have h : q168 = q168 := rfl
  conv at h => rhs; reduce
  exact ⟨_, h.symm⟩
def C168 : T 168 := mkRun 2 (k168 C172 C252) (by decide) (g168.1 (theOps Tryz.prog) C172 C252) (by rw [g168.2])
/- 103: rampart/tcp.Get -/
def s103 (c162 : T 162) (c168 : T 168) : S := .seq (.reg [mN 6 (.newz [0, 0, .i .u32 0, .i .u32 0, 0, 0, .s []]), mK 7 (.s []), mK 8 0]) (.join [2, 6, 9] [] (.reg [mM 12 0, mM 13 1, mU 14 (.build [0, 0, .i .u32 0, .i .u32 0, 0, 0, .s [], .i .u32 0, .i .u32 0] [(7, (1, 12)), (8, (1, 13))]), mN 9 (.newz [0, 0, .i .u32 0, .i .u32 0, 0, 0, .s [], .i .u32 0, .i .u32 0]), mZ (.st 9 9 14)]) (.join [2, 6, 9] [] (.seq (.reg [mR 15 (.ldN 9 9), mM 16 2, mQ 17 168 [15, 16] c168, mM 10 17]) (.seq (.reg [mM 18 10, mB .neq 19 18 (.c 0)]) (.cond 19 (.seq (.reg [mU 20 (.build [0, 0, .i .u32 0, .i .u32 0, 0, 0, .s []] []), mM 21 10, mZ (.st 7 6 20), mK 7 (.s []), mM 8 21]) .ret) .skip))) (.join [2, 6, 9, 11] [] (.reg [mM 22 2, mU 23 (.idxStr 22 (.c 12)), mU 24 (.conv .i64 23), mB .shr 25 24 (.c (.i .u64 4)), mB .mul 26 25 (.c 4), mM 11 26]) (.join [2, 6, 9, 11] [] (.draw 0 [⟨[], [⟨0, ⟨some 27, .pure (.mv 2), none⟩, 0⟩, ⟨1, ⟨some 28, .pure (.slStr 27 (some (.c 0)) (some (.c 2))), none⟩, 0⟩, ⟨3, ⟨some 30, .pure (.mv 2), none⟩, 1⟩, ⟨4, ⟨some 31, .pure (.slStr 30 (some (.c 2)) (some (.c 4))), none⟩, 1⟩], some (mQ 29 162 [28] c162)⟩, ⟨[], [⟨6, ⟨some 33, .pure (.fieldAddr 0 9), none⟩, 2⟩, ⟨7, ⟨some 34, .pure (.fieldAddr 0 33), none⟩, 2⟩], some (mQ 32 162 [31] c162)⟩, ⟨[], [], some (mZ (.st 1 34 29))⟩, ⟨[], [⟨9, ⟨some 35, .pure (.fieldAddr 0 9), none⟩, 3⟩, ⟨10, ⟨some 36, .pure (.fieldAddr 1 35), none⟩, 3⟩], some (mZ (.st 1 36 32))⟩, ⟨[], [], none⟩]) (.join [2, 6, 9, 11] [] (.draw 0 [⟨[], [⟨0, ⟨some 37, .pure (.mv 2), none⟩, 0⟩, ⟨1, ⟨some 38, .pure (.slStr 37 (some (.c 4)) (some (.c 8))), none⟩, 0⟩, ⟨4, ⟨some 41, .pure (.mv 2), none⟩, 1⟩, ⟨5, ⟨some 42, .pure (.slStr 41 (some (.c 8)) (some (.c 12))), none⟩, 1⟩], some (mQ 39 162 [38] c162)⟩, ⟨[], [⟨3, ⟨some 40, .pure (.conv .u32 39), none⟩, 2⟩, ⟨8, ⟨some 45, .pure (.fieldAddr 0 9), none⟩, 2⟩, ⟨9, ⟨some 46, .pure (.fieldAddr 2 45), none⟩, 2⟩], some (mQ 43 162 [42] c162)⟩, ⟨[], [⟨7, ⟨some 44, .pure (.conv .u32 43), none⟩, 3⟩], some (mZ (.st 1 46 40))⟩, ⟨[], [⟨11, ⟨some 47, .pure (.fieldAddr 0 9), none⟩, 3⟩, ⟨12, ⟨some 48, .pure (.fieldAddr 3 47), none⟩, 3⟩], some (mZ (.st 1 48 44))⟩, ⟨[], [], none⟩]) (.seq (.draw 0 [⟨[], [⟨0, ⟨some 49, .pure (.mv 2), none⟩, 1⟩, ⟨1, ⟨some 50, .pure (.idxStr 49 (.c 13)), none⟩, 1⟩, ⟨2, ⟨some 51, .pure (.conv .i64 50), none⟩, 1⟩, ⟨3, ⟨some 52, .pure (.mv 2), none⟩, 0⟩, ⟨4, ⟨some 53, .pure (.slStr 52 (some (.c 14)) (some (.c 16))), none⟩, 0⟩, ⟨6, ⟨some 55, .pure (.mv 2), none⟩, 3⟩, ⟨7, ⟨some 56, .pure (.mv 11), none⟩, 3⟩, ⟨8, ⟨some 57, .pure (.slStr 55 (some (.c 20)) (some 56)), none⟩, 3⟩, ⟨9, ⟨some 58, .pure (.fieldAddr 0 9), none⟩, 1⟩, ⟨10, ⟨some 59, .pure (.fieldAddr 4 58), none⟩, 1⟩], some (mQ 54 162 [53] c162)⟩, ⟨[], [], some (mZ (.st 1 59 51))⟩, ⟨[], [⟨12, ⟨some 60, .pure (.fieldAddr 0 9), none⟩, 2⟩, ⟨13, ⟨some 61, .pure (.fieldAddr 5 60), none⟩, 2⟩], some (mZ (.st 1 61 54))⟩, ⟨[], [⟨15, ⟨some 62, .pure (.fieldAddr 0 9), none⟩, 3⟩, ⟨16, ⟨some 63, .pure (.fieldAddr 6 62), none⟩, 3⟩], some (mZ (.st 1 63 57))⟩, ⟨[], [], none⟩]) (.seq (.draw 0 [⟨[], [⟨0, ⟨some 64, .pure (.fieldAddr 0 9), none⟩, 0⟩, ⟨1, ⟨some 65, .read (.ldN 7 64), none⟩, 0⟩, ⟨2, ⟨some 66, .pure (.mv 2), none⟩, 1⟩, ⟨3, ⟨some 67, .pure (.mv 11), none⟩, 1⟩, ⟨4, ⟨some 68, .pure (.slStr 66 (some 67) none), none⟩, 1⟩], some (mZ (.st 7 6 65))⟩, ⟨[], [⟨6, ⟨some 7, .pure (.mv 68), none⟩, 1⟩, ⟨7, ⟨some 8, .pure (.mv (.c 0)), none⟩, 1⟩], none⟩]) .ret)))))))
def r103 : List ARes := [.c true 7 6, .t 7, .t 8]
theorem k103 (c162 : T 162) (c168 : T 168) : compFn Tryz.prog 103 = some ⟨69, (s103 c162 c168).er, r103⟩ := by kernel_rfl
abbrev q103 (O : Ops Tryz.prog) (c162 : T 162) (c168 : T 168) := curF 3 (sfn O (s103 c162 c168) r103)
def g103 : { g // g = q103 } := by
  have h : q103 = q103 := rfl
  conv at h => rhs; reduce
  exact ⟨_, h.symm⟩
def C103 : T 103 := mkRun 3 (k103 C162 C168) (by decide) (g103.1 (theOps Tryz.prog) C162 C168) (by rw [g103.2])
/- 169: rampart/dgram.wrong[string] -/
def s169 (a170 : U) (a171 : U) (a174 : U) (a175 : U) (a244 : U) (a245 : U) (a246 : U) (a247 : U) (a248 : U) (a249 : U) (a250 : U) (a251 : U) : S := .seq (.reg [mK 6 0]) (.seq (.block 0 (.seq (.reg [mM 8 0, mU 9 (.lenS 8), mB .lss 10 9 (.c 8), mM 7 10]) (.cond 7 (.seq (.reg [mK 6 2]) .ret) (.seq (.reg [mM 12 1, mM 13 0, mV 14 12 [13] [a170, a171, a174, a175, a244, a245, a246, a247, a248, a249, a250, a251] [], mM 11 14]) (.cond 11 (.seq (.reg [mK 6 3]) .ret) (.seq (.reg [mM 16 0, mU 17 (.lenS 16), mB .gtr 18 17 (.c 2000), mM 15 18]) (.cond 15 (.seq (.reg [mK 6 5]) .ret) (.seq (.reg [mM 20 2, mM 21 0, mV 22 20 [21] [a170, a171, a174, a175, a244, a245, a246, a247, a248, a249, a250, a251] [], mM 19 22]) (.cond 19 (.seq (.reg [mK 6 4]) .ret) .skip))))))))) (.seq (.reg [mK 6 0]) .ret))
def r169 : List ARes := [.t 6]
theorem k169 (a170 : U) (a171 : U) (a174 : U) (a175 : U) (a244 : U) (a245 : U) (a246 : U) (a247 : U) (a248 : U) (a249 : U) (a250 : U) (a251 : U) : compFn Tryz.prog 169 = some ⟨23, (s169 a170 a171 a174 a175 a244 a245 a246 a247 a248 a249 a250 a251).er, r169⟩ := by kernel_rfl
abbrev q169 (O : Ops Tryz.prog) (a170 : U) (a171 : U) (a174 : U) (a175 : U) (a244 : U) (a245 : U) (a246 : U) (a247 : U) (a248 : U) (a249 : U) (a250 : U) (a251 : U) := curF 3 (sfn O (s169 a170 a171 a174 a175 a244 a245 a246 a247 a248 a249 a250 a251) r169)
def g169 : { g // g = q169 } := by
  have h : q169 = q169 := rfl
  conv at h => rhs; reduce
  exact ⟨_, h.symm⟩
def C169 : T 169 := mkRun 3 (k169 A170 A171 A174 A175 A244 A245 A246 A247 A248 A249 A250 A251) (by decide) (g169.1 (theOps Tryz.prog) A170 A171 A174 A175 A244 A245 A246 A247 A248 A249 A250 A251) (by rw [g169.2])
/- 104: rampart/dgram.GetUDP -/
def s104 (c162 : T 162) (c169 : T 169) : S := .join [2, 3, 4, 6] [] (.reg [mN 3 (.box 0), mN 4 (.box 1), mN 6 (.newz [0, 0, 0, 0, .i .u32 0]), mK 7 (.s []), mK 8 0]) (.join [2, 6, 9] [] (.reg [mM 10 2, mU 11 (.mkFunc 171 [] [3, 4]), mQ 12 169 [10, .fn 170, 11] c169, mM 9 12]) (.join [2, 6] [] (.seq (.reg [mM 13 9, mB .neq 14 13 (.c 0)]) (.cond 14 (.seq (.reg [mU 15 (.build [0, 0, 0, 0, .i .u32 0] []), mM 16 9, mZ (.st 5 6 15), mK 7 (.s []), mM 8 16]) .ret) .skip)) (.seq (.draw 0 [⟨[], [⟨0, ⟨some 17, .pure (.mv 2), none⟩, 0⟩, ⟨1, ⟨some 18, .pure (.slStr 17 (some (.c 0)) (some (.c 2))), none⟩, 0⟩, ⟨3, ⟨some 20, .pure (.mv 2), none⟩, 1⟩, ⟨4, ⟨some 21, .pure (.slStr 20 (some (.c 2)) (some (.c 4))), none⟩, 1⟩, ⟨7, ⟨some 24, .pure (.mv 2), none⟩, 3⟩, ⟨8, ⟨some 25, .pure (.slStr 24 (some (.c 8)) none), none⟩, 3⟩], some (mQ 19 162 [18] c162)⟩, ⟨[], [], some (mQ 22 162 [21] c162)⟩, ⟨[], [⟨6, ⟨some 23, .pure (.build [0, 0, 0, 0, .i .u32 0] [(0, (1, 19)), (1, (1, 22))]), none⟩, 2⟩], some (mZ (.st 5 6 23))⟩, ⟨[], [⟨10, ⟨some 7, .pure (.mv 25), none⟩, 3⟩, ⟨11, ⟨some 8, .pure (.mv (.c 0)), none⟩, 3⟩], none⟩]) .ret)))
def r104 : List ARes := [.c true 5 6, .t 7, .t 8]
theorem k104 (c162 : T 162) (c169 : T 169) : compFn Tryz.prog 104 = some ⟨26, (s104 c162 c169).er, r104⟩ := by kernel_rfl
abbrev q104 (O : Ops Tryz.prog) (c162 : T 162) (c169 : T 169) := curF 3 (sfn O (s104 c162 c169) r104)
def g104 : { g // g = q104 } := by
  have h : q104 = q104 := rfl
  conv at h => rhs; reduce
  exact ⟨_, h.symm⟩
def C104 : T 104 := mkRun 3 (k104 C162 C169) (by decide) (g104.1 (theOps Tryz.prog) C162 C169) (by rw [g104.2])
/- 105: rampart/dgram.GetICMP -/
def s105 (c162 : T 162) (c169 : T 169) : S := .seq (.reg [mN 2 (.newz [0, 0, 0, 0, .i .u32 0]), mK 3 (.s []), mK 4 0]) (.seq (.reg [mM 6 0, mQ 7 169 [6, .fn 174, .fn 175] c169, mM 5 7]) (.join [0, 2] [] (.seq (.reg [mM 8 5, mB .neq 9 8 (.c 0)]) (.cond 9 (.seq (.reg [mU 10 (.build [0, 0, 0, 0, .i .u32 0] []), mM 11 5, mZ (.st 5 2 10), mK 3 (.s []), mM 4 11]) .ret) .skip)) (.seq (.draw 0 [⟨[], [⟨0, ⟨some 12, .pure (.mv 0), none⟩, 1⟩, ⟨1, ⟨some 13, .pure (.idxStr 12 (.c 0)), none⟩, 1⟩, ⟨2, ⟨some 14, .pure (.conv .i64 13), none⟩, 1⟩, ⟨3, ⟨some 15, .pure (.mv 0), none⟩, 1⟩, ⟨4, ⟨some 16, .pure (.idxStr 15 (.c 1)), none⟩, 1⟩, ⟨5, ⟨some 17, .pure (.conv .i64 16), none⟩, 1⟩, ⟨6, ⟨some 18, .pure (.mv 0), none⟩, 0⟩, ⟨7, ⟨some 19, .pure (.slStr 18 (some (.c 4)) (some (.c 8))), none⟩, 0⟩, ⟨11, ⟨some 23, .pure (.mv 0), none⟩, 2⟩, ⟨12, ⟨some 24, .pure (.slStr 23 (some (.c 8)) none), none⟩, 2⟩], some (mQ 20 162 [19] c162)⟩, ⟨[], [⟨9, ⟨some 21, .pure (.conv .u32 20), none⟩, 1⟩, ⟨10, ⟨some 22, .pure (.build [0, 0, 0, 0, .i .u32 0] [(2, (1, 14)), (3, (1, 17)), (4, (1, 21))]), none⟩, 1⟩], some (mZ (.st 5 2 22))⟩, ⟨[], [⟨14, ⟨some 3, .pure (.mv 24), none⟩, 2⟩, ⟨15, ⟨some 4, .pure (.mv (.c 0)), none⟩, 2⟩], none⟩]) .ret)))
def r105 : List ARes := [.c true 5 2, .t 3, .t 4]
theorem k105 (c162 : T 162) (c169 : T 169) : compFn Tryz.prog 105 = some ⟨25, (s105 c162 c169).er, r105⟩ := by kernel_rfl
abbrev q105 (O : Ops Tryz.prog) (c162 : T 162) (c169 : T 169) := curF 1 (sfn O (s105 c162 c169) r105)
def g105 : { g // g = q105 } := by
  have h : q105 = q105 := rfl
  conv at h => rhs; reduce
  exact ⟨_, h.symm⟩
def C105 : T 105 := mkRun 1 (k105 C162 C169) (by decide) (g105.1 (theOps Tryz.prog) C162 C169) (by rw [g105.2])
/- 320: rampart/ipv4.in -/
def s320 : S := .seq (.reg [mK 4 (.b false)]) (.seq (.reg [mM 5 0, mB .geq 6 5 (.c 0), mM 7 6, (mM 8 0).g 7 true, (mM 9 1).g 7 true, (mB .leq 10 8 9).g 7 true, mU 11 (.pick 7 10 (.c (.b false))), mM 4 11]) .ret)
def r320 : List ARes := [.t 4]
theorem k320 : compFn Tryz.prog 320 = some ⟨12, (s320).er, r320⟩ := by kernel_rfl
abbrev q320 (O : Ops Tryz.prog) := curF 2 (sfn O (s320) r320)
def g320 : { g // g = q320 } := by
  have h : q320 = q320 := rfl
  conv at h => rhs; reduce
  exact ⟨_, h.symm⟩
def C320 : T 320 := mkRun 2 (k320) (by decide) (g320.1 (theOps Tryz.prog)) (by rw [g320.2])
/- 255: rampart/ipv4.Check -/
def s255 (c320 : T 320) : S := .seq (.reg [mN 1 (.box 0), mK 2 (.b false)]) (.seq (.reg [mF 0 3 1, mL 4 3, mQ 5 320 [4, .c 255] c320, mM 6 5, (mF 5 7 1).g 6 true, (mL 8 7).g 6 true, (mQ 9 320 [8, .c 255] c320).g 6 true, mU 10 (.pick 6 9 (.c (.b false))), mM 11 10, (mF 6 12 1).g 11 true, (mL 13 12).g 11 true, (mQ 14 320 [13, .c 255] c320).g 11 true, mU 15 (.pick 11 14 (.c (.b false))), mM 16 15, (mF 1 17 1).g 16 true, (mL 18 17).g 16 true, (mQ 19 320 [18, .c 65535] c320).g 16 true, mU 20 (.pick 16 19 (.c (.b false))), mM 21 20, (mF 4 22 1).g 21 true, (mL 23 22).g 21 true, (mQ 24 320 [23, .c 65528] c320).g 21 true, mU 25 (.pick 21 24 (.c (.b false))), mM 26 25, (mF 4 27 1).g 26 true, (mL 28 27).g 26 true, (mB .rem 29 28 (.c 8)).g 26 true, (mB .eql 30 29 (.c 0)).g 26 true, mU 31 (.pick 26 30 (.c (.b false))), mM 32 31, (mF 9 33 1).g 32 true, (mL 34 33).g 32 true, (mU 35 (.lenS 34)).g 32 true, (mB .leq 36 35 (.c 40)).g 32 true, mU 37 (.pick 32 36 (.c (.b false))), mM 38 37, (mF 9 39 1).g 38 true, (mL 40 39).g 38 true, (mU 41 (.lenS 40)).g 38 true, (mB .rem 42 41 (.c 4)).g 38 true, (mB .eql 43 42 (.c 0)).g 38 true, mU 44 (.pick 38 43 (.c (.b false))), mM 2 44]) .ret)
def r255 : List ARes := [.t 2]
theorem k255 (c320 : T 320) : compFn Tryz.prog 255 = some ⟨45, (s255 c320).er, r255⟩ := by kernel_rfl
abbrev q255 (O : Ops Tryz.prog) (c320 : T 320) := curF 1 (sfn O (s255 c320) r255)
def g255 : { g // g = q255 } := by
  have h : q255 = q255 := rfl
  conv at h => rhs; reduce
  exact ⟨_, h.symm⟩
def C255 : T 255 := mkRun 1 (k255 C320) (by decide) (g255.1 (theOps Tryz.prog) C320) (by rw [g255.2])
/- 256: rampart/ipv4.cutting -/
def s256 : S := .seq (.reg [mN 1 (.box 0), mK 2 0]) (.seq (.reg [mF 4 4 1, mL 5 4, mB .quo 6 5 (.c 8), mM 3 6]) (.join [1, 3] [] (.seq (.reg [mF 3 7 1, mL 8 7]) (.cond 8 (.reg [mM 9 3, mB .or 10 9 (.c 16384), mM 3 10]) .skip)) (.join [3] [] (.seq (.reg [mF 2 11 1, mL 12 11]) (.cond 12 (.reg [mM 13 3, mB .or 14 13 (.c 8192), mM 3 14]) .skip)) (.seq (.reg [mM 15 3, mM 2 15]) .ret))))
def r256 : List ARes := [.t 2]
theorem k256 : compFn Tryz.prog 256 = some ⟨16, (s256).er, r256⟩ := by kernel_rfl
abbrev q256 (O : Ops Tryz.prog) := curF 1 (sfn O (s256) r256)
def g256 : { g // g = q256 } := by
  have h : q256 = q256 := rfl
  conv at h => rhs; reduce
  exact ⟨_, h.symm⟩
def C256 : T 256 := mkRun 1 (k256) (by decide) (g256.1 (theOps Tryz.prog)) (by rw [g256.2])
/- 176: rampart/ipv4.Put -/
def s176 (c172 : T 172) (c254 : T 254) (c255 : T 255) (c256 : T 256) : S := .seq (.reg [mN 2 (.box 0), mK 4 (.s []), mK 5 0]) (.join [1, 2] [] (.block 0 (.seq (.reg [mR 10 (.ldN 10 2), mQ 11 255 [10] c255, mU 12 (.un .not 11), mM 9 12]) (.cond 9 (.seq (.reg [mK 4 (.s []), mK 5 1]) .ret) (.seq (.reg [mM 14 1, mU 15 (.lenS 14), mB .gtr 16 15 (.c 2000), mM 13 16]) (.cond 13 (.seq (.reg [mK 4 (.s []), mK 5 5]) .ret) .skip))))) (.join [1, 2, 6] [] (.reg [mF 9 17 2, mL 18 17, mU 19 (.lenS 18), mB .add 20 (.c 20) 19, mM 6 20]) (.join [1, 2, 7] [] (.draw 0 [⟨[], [⟨0, ⟨some 21, .pure (.mv 6), none⟩, 0⟩, ⟨1, ⟨some 22, .pure (.bin .quo 21 (.c 4)), none⟩, 0⟩, ⟨2, ⟨some 23, .pure (.bin .or (.c 64) 22), none⟩, 0⟩, ⟨4, ⟨some 25, .pure (.fieldAddr 0 2), none⟩, 1⟩, ⟨5, ⟨some 26, .read (.ld1 25), none⟩, 1⟩, ⟨8, ⟨some 29, .pure (.mv 6), none⟩, 2⟩, ⟨9, ⟨some 30, .pure (.mv 1), none⟩, 2⟩, ⟨10, ⟨some 31, .pure (.lenS 30), none⟩, 2⟩, ⟨11, ⟨some 32, .pure (.bin .add 29 31), none⟩, 2⟩, ⟨14, ⟨some 35, .pure (.fieldAddr 1 2), none⟩, 3⟩, ⟨15, ⟨some 36, .read (.ld1 35), none⟩, 3⟩, ⟨18, ⟨some 39, .read (.ldN 10 2), none⟩, 4⟩, ⟨22, ⟨some 43, .pure (.fieldAddr 5 2), none⟩, 6⟩, ⟨23, ⟨some 44, .read (.ld1 43), none⟩, 6⟩, ⟨26, ⟨some 47, .pure (.fieldAddr 6 2), none⟩, 7⟩, ⟨27, ⟨some 48, .read (.ld1 47), none⟩, 7⟩], some (mQ 24 254 [23, .c 1] c254)⟩, ⟨[⟨some 26, .read (.ld1 25), none⟩, ⟨some 36, .read (.ld1 35), none⟩, ⟨some 39, .read (.ldN 10 2), none⟩, ⟨some 44, .read (.ld1 43), none⟩, ⟨some 48, .read (.ld1 47), none⟩], [], some (mQ 27 254 [26, .c 1] c254)⟩, ⟨[⟨some 36, .read (.ld1 35), none⟩, ⟨some 39, .read (.ldN 10 2), none⟩, ⟨some 44, .read (.ld1 43), none⟩, ⟨some 48, .read (.ld1 47), none⟩], [⟨7, ⟨some 28, .pure (.bin .add 24 27), none⟩, 8⟩], some (mQ 33 254 [32, .c 2] c254)⟩, ⟨[⟨some 36, .read (.ld1 35), none⟩, ⟨some 39, .read (.ldN 10 2), none⟩, ⟨some 44, .read (.ld1 43), none⟩, ⟨some 48, .read (.ld1 47), none⟩], [⟨13, ⟨some 34, .pure (.bin .add 28 33), none⟩, 8⟩], some (mQ 37 254 [36, .c 2] c254)⟩, ⟨[⟨some 39, .read (.ldN 10 2), none⟩, ⟨some 44, .read (.ld1 43), none⟩, ⟨some 48, .read (.ld1 47), none⟩], [⟨17, ⟨some 38, .pure (.bin .add 34 37), none⟩, 8⟩], some (mQ 40 256 [39] c256)⟩, ⟨[⟨some 44, .read (.ld1 43), none⟩, ⟨some 48, .read (.ld1 47), none⟩], [], some (mQ 41 254 [40, .c 2] c254)⟩, ⟨[⟨some 44, .read (.ld1 43), none⟩, ⟨some 48, .read (.ld1 47), none⟩], [⟨21, ⟨some 42, .pure (.bin .add 38 41), none⟩, 8⟩], some (mQ 45 254 [44, .c 1] c254)⟩, ⟨[⟨some 48, .read (.ld1 47), none⟩], [⟨25, ⟨some 46, .pure (.bin .add 42 45), none⟩, 8⟩], some (mQ 49 254 [48, .c 1] c254)⟩, ⟨[], [⟨29, ⟨some 50, .pure (.bin .add 46 49), none⟩, 8⟩, ⟨30, ⟨some 7, .pure (.mv 50), none⟩, 8⟩], none⟩]) (.seq (.draw 0 [⟨[], [⟨0, ⟨some 51, .pure (.fieldAddr 7 2), none⟩, 0⟩, ⟨1, ⟨some 52, .read (.ld1 51), none⟩, 0⟩, ⟨2, ⟨some 53, .pure (.conv .i64 52), none⟩, 0⟩, ⟨4, ⟨some 55, .pure (.fieldAddr 8 2), none⟩, 1⟩, ⟨5, ⟨some 56, .read (.ld1 55), none⟩, 1⟩, ⟨6, ⟨some 57, .pure (.conv .i64 56), none⟩, 1⟩, ⟨9, ⟨some 60, .pure (.fieldAddr 9 2), none⟩, 2⟩, ⟨10, ⟨some 61, .read (.ld1 60), none⟩, 2⟩], some (mQ 54 254 [53, .c 4] c254)⟩, ⟨[⟨some 56, .read (.ld1 55), none⟩, ⟨some 61, .read (.ld1 60), none⟩], [], some (mQ 58 254 [57, .c 4] c254)⟩, ⟨[⟨some 61, .read (.ld1 60), none⟩], [⟨8, ⟨some 59, .pure (.bin .add 54 58), none⟩, 2⟩, ⟨11, ⟨some 62, .pure (.bin .add 59 61), none⟩, 2⟩, ⟨12, ⟨some 8, .pure (.mv 62), none⟩, 2⟩], none⟩]) (.seq (.reg [mM 63 7, mM 64 7, mM 65 8, mN 66 (.bslice 1 3 [.s [], .s [], .s []] [(0, (1, 64)), (1, (1, .c (.s [0, 0]))), (2, (1, 65))]), mQ 67 172 [66] c172, mQ 68 254 [67, .c 2] c254, mB .add 69 63 68, mM 70 8, mB .add 71 69 70, mM 72 1, mB .add 73 71 72, mM 4 73, mK 5 0]) .ret)))))
def r176 : List ARes := [.t 4, .t 5]
theorem k176 (c172 : T 172) (c254 : T 254) (c255 : T 255) (c256 : T 256) : compFn Tryz.prog 176 = some ⟨74, (s176 c172 c254 c255 c256).er, r176⟩ := by kernel_rfl
abbrev q176 (O : Ops Tryz.prog) (c172 : T 172) (c254 : T 254) (c255 : T 255) (c256 : T 256) := curF 2 (sfn O (s176 c172 c254 c255 c256) r176)
def g176 : { g // g = q176 } := by
  have h : q176 = q176 := rfl
  conv at h => rhs; reduce
  exact ⟨_, h.symm⟩
def C176 : T 176 := mkRun 2 (k176 C172 C254 C255 C256) (by decide) (g176.1 (theOps Tryz.prog) C172 C254 C255 C256) (by rw [g176.2])
/- 177: rampart/eth.Put -/
def s177 (c254 : T 254) : S := .seq (.reg [mN 2 (.box 0), mK 4 (.s [])]) (.seq (.draw 0 [⟨[], [⟨0, ⟨some 5, .pure (.fieldAddr 0 2), none⟩, 1⟩, ⟨1, ⟨some 6, .read (.slArr 6 1 5 none none), none⟩, 1⟩, ⟨2, ⟨some 7, .read (.b2s 6), none⟩, 1⟩, ⟨3, ⟨some 8, .pure (.fieldAddr 6 2), none⟩, 1⟩, ⟨4, ⟨some 9, .read (.slArr 6 1 8 none none), none⟩, 1⟩, ⟨5, ⟨some 10, .read (.b2s 9), none⟩, 1⟩, ⟨6, ⟨some 11, .pure (.bin .add 7 10), none⟩, 1⟩, ⟨7, ⟨some 12, .pure (.fieldAddr 12 2), none⟩, 0⟩, ⟨8, ⟨some 13, .read (.ld1 12), none⟩, 0⟩, ⟨11, ⟨some 16, .pure (.mv 1), none⟩, 1⟩], some (mQ 14 254 [13, .c 2] c254)⟩, ⟨[⟨some 6, .read (.slArr 6 1 5 none none), none⟩, ⟨some 7, .read (.b2s 6), none⟩, ⟨some 9, .read (.slArr 6 1 8 none none), none⟩, ⟨some 10, .read (.b2s 9), none⟩], [⟨10, ⟨some 15, .pure (.bin .add 11 14), none⟩, 1⟩, ⟨12, ⟨some 17, .pure (.bin .add 15 16), none⟩, 1⟩, ⟨13, ⟨some 4, .pure (.mv 17), none⟩, 1⟩], none⟩]) .ret)
def r177 : List ARes := [.t 4]
theorem k177 (c254 : T 254) : compFn Tryz.prog 177 = some ⟨18, (s177 c254).er, r177⟩ := by kernel_rfl
abbrev q177 (O : Ops Tryz.prog) (c254 : T 254) := curF 2 (sfn O (s177 c254) r177)
def g177 : { g // g = q177 } := by
  have h : q177 = q177 := rfl
  conv at h => rhs; reduce
  exact ⟨_, h.symm⟩
def C177 : T 177 := mkRun 2 (k177 C254) (by decide) (g177.1 (theOps Tryz.prog) C254) (by rw [g177.2])
/- 106: rampart/craft.Datagram -/
def s106 (c176 : T 176) (c177 : T 177) : S := .seq (.reg [mN 3 (.box 0), mN 4 (.box 1), mK 6 (.s [])]) (.seq (.reg [mR 10 (.ldN 10 4), mM 11 2, mQ 12 176 [10, 11] c176, mM 9 12, mU 13 (.extract 0 9), mU 14 (.extract 1 9), mM 7 13, mM 8 14]) (.seq (.seq (.reg [mM 15 8, mB .neq 16 15 (.c 0)]) (.cond 16 (.seq (.reg [mK 6 (.s [])]) .ret) .skip)) (.seq (.reg [mR 17 (.ldN 13 3), mM 18 7, mQ 19 177 [17, 18] c177, mM 6 19]) .ret)))
def r106 : List ARes := [.t 6]
theorem k106 (c176 : T 176) (c177 : T 177) : compFn Tryz.prog 106 = some ⟨20, (s106 c176 c177).er, r106⟩ := by kernel_rfl
abbrev q106 (O : Ops Tryz.prog) (c176 : T 176) (c177 : T 177) := curF 3 (sfn O (s106 c176 c177) r106)
def g106 : { g // g = q106 } := by
  have h : q106 = q106 := rfl
  conv at h => rhs; reduce
  exact ⟨_, h.symm⟩
def C106 : T 106 := mkRun 3 (k106 C176 C177) (by decide) (g106.1 (theOps Tryz.prog) C176 C177) (by rw [g106.2])
end
end Go.Proofs.YtjaammiblfndaaaGreatDoor
