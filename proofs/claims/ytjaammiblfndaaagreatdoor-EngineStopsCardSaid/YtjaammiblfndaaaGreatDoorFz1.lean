/- A part of the proof: contracts of functions, over the abstract machine. -/
import Derived.Test.YtjaammiblfndaaaGreatDoorFz0
import Derived.Test.YtjaammiblfndaaaGreatDoorProg
import Derived.KernelRfl
set_option linter.unusedVariables false
set_option linter.unusedSimpArgs false
set_option linter.all false
/- Functions, worked out ahead of their runs: printed by a program of ours, held by the kernel. -/
namespace Go.Proofs.YtjaammiblfndaaaGreatDoor
open Ram Go
noncomputable section
set_option maxRecDepth 100000
set_option maxHeartbeats 4000000
/- 52: (*rampart/engine.Engine).message -/
def s52 (c98 : T 98) (c100 : T 100) (c103 : T 103) (c104 : T 104) (c105 : T 105) (c106 : T 106) : S := .seq (.reg [mK 4 (.b false)]) (.join [0, 1] [] (.draw 0 [⟨[], [⟨0, ⟨some 7, .pure (.mv 1), none⟩, 0⟩, ⟨1, ⟨some 8, .pure (.mv 1), none⟩, 0⟩, ⟨2, ⟨some 9, .pure (.nilCheck 8), none⟩, 0⟩, ⟨3, ⟨some 10, .pure (.fieldAddr 15 9), none⟩, 0⟩, ⟨4, ⟨some 11, .pure (.fieldAddr 6 10), none⟩, 0⟩, ⟨5, ⟨some 12, .read (.ld1 11), none⟩, 0⟩, ⟨6, ⟨some 13, .pure (.mv 1), none⟩, 0⟩, ⟨7, ⟨some 14, .pure (.nilCheck 13), none⟩, 0⟩, ⟨8, ⟨some 15, .pure (.fieldAddr 15 14), none⟩, 0⟩, ⟨9, ⟨some 16, .pure (.fieldAddr 7 15), none⟩, 0⟩, ⟨10, ⟨some 17, .read (.ld1 16), none⟩, 0⟩, ⟨11, ⟨some 18, .pure (.mv 1), none⟩, 0⟩, ⟨12, ⟨some 19, .pure (.nilCheck 18), none⟩, 0⟩, ⟨13, ⟨some 20, .pure (.fieldAddr 15 19), none⟩, 0⟩, ⟨14, ⟨some 21, .pure (.fieldAddr 8 20), none⟩, 0⟩, ⟨15, ⟨some 22, .read (.ld1 21), none⟩, 0⟩, ⟨16, ⟨some 23, .pure (.build [0, .i .u32 0, .i .u32 0, 0, 0] [(0, (1, 12)), (1, (1, 17)), (2, (1, 22))]), none⟩, 0⟩, ⟨17, ⟨some 24, .pure (.nilCheck 7), none⟩, 0⟩, ⟨18, ⟨some 25, .pure (.fieldAddr 34 24), none⟩, 0⟩], some (mZ (.st 5 25 23))⟩, ⟨[], [], none⟩]) (.seq (.reg [mN 5 (.newz [0, 0, 0, 0, .i .u32 0])]) (.seq (.reg [mK 6 0]) (.join [0, 6] [] (.join [0, 1, 5, 30] [] (.reg [mM 26 1, mU 27 (.nilCheck 26), mF 15 28 27, mF 6 29 28, mL 30 29]) (.block 0 (.seq (.reg [mB .eql 48 30 (.c 6), mM 47 48]) (.cond 47 (.join [0, 1, 6] [] (.draw 0 [⟨[], [⟨0, ⟨some 50, .pure (.mv 1), none⟩, 1⟩, ⟨1, ⟨some 51, .pure (.mv 1), none⟩, 2⟩, ⟨2, ⟨some 52, .pure (.mv 1), none⟩, 0⟩, ⟨3, ⟨some 53, .pure (.nilCheck 52), none⟩, 0⟩, ⟨4, ⟨some 54, .pure (.fieldAddr 15 53), none⟩, 0⟩, ⟨5, ⟨some 55, .pure (.fieldAddr 7 54), none⟩, 0⟩, ⟨6, ⟨some 56, .read (.ld1 55), none⟩, 0⟩, ⟨7, ⟨some 57, .pure (.mv 1), none⟩, 0⟩, ⟨8, ⟨some 58, .pure (.nilCheck 57), none⟩, 0⟩, ⟨9, ⟨some 59, .pure (.fieldAddr 15 58), none⟩, 0⟩, ⟨10, ⟨some 60, .pure (.fieldAddr 8 59), none⟩, 0⟩, ⟨11, ⟨some 61, .read (.ld1 60), none⟩, 0⟩, ⟨12, ⟨some 62, .pure (.mv 1), none⟩, 0⟩, ⟨13, ⟨some 63, .pure (.nilCheck 62), none⟩, 0⟩, ⟨14, ⟨some 64, .pure (.fieldAddr 25 63), none⟩, 0⟩, ⟨15, ⟨some 65, .read (.ld1 64), none⟩, 0⟩], some (mQ 66 103 [56, 61, 65] c103)⟩, ⟨[], [⟨17, ⟨some 49, .pure (.mv 66), none⟩, 1⟩, ⟨18, ⟨some 67, .pure (.extract 0 49), none⟩, 1⟩, ⟨19, ⟨some 68, .pure (.extract 1 49), none⟩, 2⟩, ⟨20, ⟨some 69, .pure (.extract 2 49), none⟩, 3⟩, ⟨21, ⟨some 70, .pure (.nilCheck 50), none⟩, 1⟩, ⟨22, ⟨some 71, .pure (.fieldAddr 26 70), none⟩, 1⟩], some (mZ (.st 7 71 67))⟩, ⟨[], [⟨24, ⟨some 72, .pure (.nilCheck 51), none⟩, 2⟩, ⟨25, ⟨some 73, .pure (.fieldAddr 33 72), none⟩, 2⟩], some (mZ (.st 1 73 68))⟩, ⟨[], [⟨27, ⟨some 6, .pure (.mv 69), none⟩, 3⟩], none⟩]) (.draw 0 [⟨[], [⟨0, ⟨some 74, .pure (.mv 1), none⟩, 0⟩, ⟨1, ⟨some 75, .pure (.mv 1), none⟩, 1⟩, ⟨2, ⟨some 76, .pure (.mv 1), none⟩, 0⟩, ⟨3, ⟨some 77, .pure (.nilCheck 76), none⟩, 0⟩, ⟨4, ⟨some 78, .pure (.fieldAddr 26 77), none⟩, 0⟩, ⟨5, ⟨some 79, .pure (.fieldAddr 0 78), none⟩, 0⟩, ⟨6, ⟨some 80, .read (.ld1 79), none⟩, 0⟩, ⟨7, ⟨some 81, .pure (.mv 1), none⟩, 0⟩, ⟨8, ⟨some 82, .pure (.nilCheck 81), none⟩, 0⟩, ⟨9, ⟨some 83, .pure (.fieldAddr 26 82), none⟩, 0⟩, ⟨10, ⟨some 84, .pure (.fieldAddr 1 83), none⟩, 0⟩, ⟨11, ⟨some 85, .read (.ld1 84), none⟩, 0⟩, ⟨12, ⟨some 86, .pure (.nilCheck 74), none⟩, 0⟩, ⟨13, ⟨some 87, .pure (.fieldAddr 34 86), none⟩, 0⟩, ⟨14, ⟨some 88, .pure (.fieldAddr 3 87), none⟩, 0⟩], some (mZ (.st 1 88 80))⟩, ⟨[], [⟨16, ⟨some 89, .pure (.nilCheck 75), none⟩, 1⟩, ⟨17, ⟨some 90, .pure (.fieldAddr 34 89), none⟩, 1⟩, ⟨18, ⟨some 91, .pure (.fieldAddr 4 90), none⟩, 1⟩], some (mZ (.st 1 91 85))⟩, ⟨[], [], none⟩])) (.seq (.reg [mB .eql 93 30 (.c 17), mM 92 93]) (.cond 92 (.join [0, 1, 5, 6] [] (.draw 0 [⟨[], [⟨0, ⟨some 95, .pure (.mv 1), none⟩, 2⟩, ⟨1, ⟨some 96, .pure (.mv 1), none⟩, 0⟩, ⟨2, ⟨some 97, .pure (.nilCheck 96), none⟩, 0⟩, ⟨3, ⟨some 98, .pure (.fieldAddr 15 97), none⟩, 0⟩, ⟨4, ⟨some 99, .pure (.fieldAddr 7 98), none⟩, 0⟩, ⟨5, ⟨some 100, .read (.ld1 99), none⟩, 0⟩, ⟨6, ⟨some 101, .pure (.mv 1), none⟩, 0⟩, ⟨7, ⟨some 102, .pure (.nilCheck 101), none⟩, 0⟩, ⟨8, ⟨some 103, .pure (.fieldAddr 15 102), none⟩, 0⟩, ⟨9, ⟨some 104, .pure (.fieldAddr 8 103), none⟩, 0⟩, ⟨10, ⟨some 105, .read (.ld1 104), none⟩, 0⟩, ⟨11, ⟨some 106, .pure (.mv 1), none⟩, 0⟩, ⟨12, ⟨some 107, .pure (.nilCheck 106), none⟩, 0⟩, ⟨13, ⟨some 108, .pure (.fieldAddr 25 107), none⟩, 0⟩, ⟨14, ⟨some 109, .read (.ld1 108), none⟩, 0⟩], some (mQ 110 104 [100, 105, 109] c104)⟩, ⟨[], [⟨16, ⟨some 94, .pure (.mv 110), none⟩, 1⟩, ⟨17, ⟨some 111, .pure (.extract 0 94), none⟩, 1⟩, ⟨18, ⟨some 112, .pure (.extract 1 94), none⟩, 2⟩, ⟨19, ⟨some 113, .pure (.extract 2 94), none⟩, 3⟩], some (mZ (.st 5 5 111))⟩, ⟨[], [⟨21, ⟨some 114, .pure (.nilCheck 95), none⟩, 2⟩, ⟨22, ⟨some 115, .pure (.fieldAddr 33 114), none⟩, 2⟩], some (mZ (.st 1 115 112))⟩, ⟨[], [⟨24, ⟨some 6, .pure (.mv 113), none⟩, 3⟩], none⟩]) (.draw 0 [⟨[], [⟨0, ⟨some 116, .pure (.mv 1), none⟩, 0⟩, ⟨1, ⟨some 117, .pure (.mv 1), none⟩, 1⟩, ⟨2, ⟨some 118, .pure (.fieldAddr 0 5), none⟩, 0⟩, ⟨3, ⟨some 119, .read (.ld1 118), none⟩, 0⟩, ⟨4, ⟨some 120, .pure (.fieldAddr 1 5), none⟩, 1⟩, ⟨5, ⟨some 121, .read (.ld1 120), none⟩, 1⟩, ⟨6, ⟨some 122, .pure (.nilCheck 116), none⟩, 0⟩, ⟨7, ⟨some 123, .pure (.fieldAddr 34 122), none⟩, 0⟩, ⟨8, ⟨some 124, .pure (.fieldAddr 3 123), none⟩, 0⟩], some (mZ (.st 1 124 119))⟩, ⟨[⟨some 121, .read (.ld1 120), none⟩], [⟨10, ⟨some 125, .pure (.nilCheck 117), none⟩, 1⟩, ⟨11, ⟨some 126, .pure (.fieldAddr 34 125), none⟩, 1⟩, ⟨12, ⟨some 127, .pure (.fieldAddr 4 126), none⟩, 1⟩], some (mZ (.st 1 127 121))⟩, ⟨[], [], none⟩])) (.seq (.reg [mB .eql 129 30 (.c 1), mM 128 129]) (.cond 128 (.reg [mM 131 1, mM 132 1, mU 133 (.nilCheck 132), mF 25 134 133, mL 135 134, mQ 136 105 [135] c105, mM 130 136, mU 137 (.extract 0 130), mU 138 (.extract 1 130), mU 139 (.extract 2 130), mU 140 (.nilCheck 131), mF 33 141 140, mZ (.st 1 141 138), mM 6 139]) (.seq (.draw 0 [⟨[], [⟨0, ⟨some 31, .pure (.mv 0), none⟩, 1⟩, ⟨1, ⟨some 32, .pure (.mv 1), none⟩, 1⟩, ⟨2, ⟨some 33, .pure (.mv 1), none⟩, 0⟩, ⟨3, ⟨some 34, .pure (.nilCheck 33), none⟩, 0⟩, ⟨4, ⟨some 35, .pure (.fieldAddr 2 34), none⟩, 0⟩, ⟨5, ⟨some 36, .read (.ldN 13 35), none⟩, 0⟩, ⟨6, ⟨some 37, .pure (.mv 1), none⟩, 0⟩, ⟨7, ⟨some 38, .pure (.nilCheck 37), none⟩, 0⟩, ⟨8, ⟨some 39, .pure (.fieldAddr 15 38), none⟩, 0⟩, ⟨9, ⟨some 40, .read (.ldN 10 39), none⟩, 0⟩, ⟨10, ⟨some 41, .pure (.mv 1), none⟩, 0⟩, ⟨11, ⟨some 42, .pure (.nilCheck 41), none⟩, 0⟩, ⟨12, ⟨some 43, .pure (.fieldAddr 25 42), none⟩, 0⟩, ⟨13, ⟨some 44, .read (.ld1 43), none⟩, 0⟩], some (mQ 45 106 [36, 40, 44] c106)⟩, ⟨[], [], some (mQ 46 100 [31, 32, 45] c100)⟩, ⟨[], [⟨16, ⟨some 4, .pure (.mv 46), none⟩, 2⟩], none⟩]) .ret))))))))) (.seq (.seq (.reg [mM 142 6, mB .neq 143 142 (.c 0)]) (.cond 143 (.seq (.reg [mM 144 0, mU 145 (.nilCheck 144), mF 15 146 145, mF 2 147 146, mQ 148 98 [147] c98, mM 4 148]) .ret) .skip)) (.seq (.reg [mK 4 (.b true)]) .ret))))))
def r52 : List ARes := [.t 4]
theorem k52 (c98 : T 98) (c100 : T 100) (c103 : T 103) (c104 : T 104) (c105 : T 105) (c106 : T 106) : compFn Tryz.prog 52 = some ⟨149, (s52 c98 c100 c103 c104 c105 c106).er, r52⟩ := by kernel_rfl
abbrev q52 (O : Ops Tryz.prog) (c98 : T 98) (c100 : T 100) (c103 : T 103) (c104 : T 104) (c105 : T 105) (c106 : T 106) := curF 2 (sfn O (s52 c98 c100 c103 c104 c105 c106) r52)
def g52 : { g // g = q52 } := by
  have h : q52 = q52 := rfl
  conv at h => rhs; reduce
  exact ⟨_, h.symm⟩
def C52 : T 52 := mkRun 2 (k52 C98 C100 C103 C104 C105 C106) (by decide) (g52.1 (theOps Tryz.prog) C98 C100 C103 C104 C105 C106) (by rw [g52.2])
def A52 : U := ⟨52, C52⟩
/- 89: rampart/blocks.New$1 -/
def s89 : S := .seq (.reg [mN 3 (.box 0), mK 4 (.b false)]) (.seq (.draw 0 [⟨[], [⟨0, ⟨some 5, .read (.ld1 1), none⟩, 0⟩, ⟨1, ⟨some 6, .pure (.nilCheck 5), none⟩, 0⟩, ⟨2, ⟨some 7, .pure (.fieldAddr 0 6), none⟩, 0⟩, ⟨3, ⟨some 8, .read (.ld1 7), none⟩, 0⟩, ⟨4, ⟨some 9, .pure (.fieldAddr 5 3), none⟩, 0⟩, ⟨5, ⟨some 10, .read (.ld1 9), none⟩, 0⟩, ⟨6, ⟨some 11, .pure (.bin .sub 8 10), none⟩, 0⟩, ⟨7, ⟨some 12, .read (.ld1 2), none⟩, 0⟩, ⟨8, ⟨some 13, .pure (.bin .geq 11 12), none⟩, 0⟩, ⟨9, ⟨some 4, .pure (.mv 13), none⟩, 0⟩], none⟩]) .ret)
def r89 : List ARes := [.t 4]
theorem k89 : compFn Tryz.prog 89 = some ⟨14, (s89).er, r89⟩ := by kernel_rfl
abbrev q89 (O : Ops Tryz.prog) := curF 3 (sfn O (s89) r89)
def g89 : { g // g = q89 } := by
  have h : q89 = q89 := rfl
  conv at h => rhs; reduce
  exact ⟨_, h.symm⟩
def C89 : T 89 := mkRun 3 (k89) (by decide) (g89.1 (theOps Tryz.prog)) (by rw [g89.2])
def A89 : U := ⟨89, C89⟩
/- 258: rampart/tuple.Turn -/
def s258 : S := .join [1, 2] [] (.reg [mN 1 (.box 0), mN 2 (.newz [0, .i .u32 0, .i .u32 0, 0, 0])]) (.seq (.reg [mF 0 3 1, mL 4 3, mF 2 5 1, mL 6 5, mF 1 7 1, mL 8 7, mF 4 9 1, mL 10 9, mF 3 11 1, mL 12 11, mU 13 (.build [0, .i .u32 0, .i .u32 0, 0, 0] [(0, (1, 4)), (1, (1, 6)), (2, (1, 8)), (3, (1, 10)), (4, (1, 12))]), mZ (.st 5 2 13)]) .ret)
def r258 : List ARes := [.c true 5 2]
theorem k258 : compFn Tryz.prog 258 = some ⟨14, (s258).er, r258⟩ := by kernel_rfl
abbrev q258 (O : Ops Tryz.prog) := curF 1 (sfn O (s258) r258)
def g258 : { g // g = q258 } := by
  have h : q258 = q258 := rfl
  conv at h => rhs; reduce
  exact ⟨_, h.symm⟩
def C258 : T 258 := mkRun 1 (k258) (by decide) (g258.1 (theOps Tryz.prog)) (by rw [g258.2])
/- 183: rampart/tuple.Same -/
def s183 (c258 : T 258) : S := .join [2, 3] [] (.reg [mN 2 (.box 0), mN 3 (.box 1), mK 4 0, mK 5 (.b false)]) (.seq (.block 0 (.seq (.reg [mR 7 (.ldN 5 2), mR 8 (.ldN 5 3), mU 9 (.eqAgg false [(0, .i), (1, .i), (2, .i), (3, .i), (4, .i)] 7 8), mM 6 9]) (.cond 6 (.seq (.reg [mK 4 0, mK 5 (.b true)]) .ret) (.seq (.draw 0 [⟨[], [⟨0, ⟨some 11, .read (.ldN 5 2), none⟩, 1⟩, ⟨1, ⟨some 12, .read (.ldN 5 3), none⟩, 0⟩], some (mQ 13 258 [12] c258)⟩, ⟨[⟨some 11, .read (.ldN 5 2), none⟩], [⟨3, ⟨some 14, .pure (.eqAgg false [(0, .i), (1, .i), (2, .i), (3, .i), (4, .i)] 11 13), none⟩, 1⟩, ⟨4, ⟨some 10, .pure (.mv 14), none⟩, 1⟩], none⟩]) (.cond 10 (.seq (.reg [mK 4 1, mK 5 (.b true)]) .ret) .skip))))) (.seq (.reg [mK 4 0, mK 5 (.b false)]) .ret))
def r183 : List ARes := [.t 4, .t 5]
theorem k183 (c258 : T 258) : compFn Tryz.prog 183 = some ⟨15, (s183 c258).er, r183⟩ := by kernel_rfl
abbrev q183 (O : Ops Tryz.prog) (c258 : T 258) := curF 2 (sfn O (s183 c258) r183)
def g183 : { g // g = q183 } := by
  have h : q183 = q183 := rfl
  conv at h => rhs; reduce
  exact ⟨_, h.symm⟩
def C183 : T 183 := mkRun 2 (k183 C258) (by decide) (g183.1 (theOps Tryz.prog) C258) (by rw [g183.2])
/- 257: rampart/blocks.same$1 -/
def s257 (c183 : T 183) : S := .seq (.reg [mN 2 (.box 0), mK 3 (.b false)]) (.seq (.reg [mR 7 (.ldN 5 1), mF 0 8 2, mR 9 (.ldN 5 8), mQ 10 183 [7, 9] c183, mM 6 10, mU 11 (.extract 0 6), mU 12 (.extract 1 6), mM 4 11, mM 5 12]) (.seq (.reg [mM 13 5, mM 3 13]) .ret))
def r257 : List ARes := [.t 3]
theorem k257 (c183 : T 183) : compFn Tryz.prog 257 = some ⟨14, (s257 c183).er, r257⟩ := by kernel_rfl
abbrev q257 (O : Ops Tryz.prog) (c183 : T 183) := curF 2 (sfn O (s257 c183) r257)
def g257 : { g // g = q257 } := by
  have h : q257 = q257 := rfl
  conv at h => rhs; reduce
  exact ⟨_, h.symm⟩
def C257 : T 257 := mkRun 2 (k257 C183) (by decide) (g257.1 (theOps Tryz.prog) C183) (by rw [g257.2])
def A257 : U := ⟨257, C257⟩
/- 197: slices.IndexFunc[[]rampart/blocks.block,rampart/blocks.block] -/
def s197 (a89 : U) (a257 : U) : S := .seq (.reg [mK 4 0]) (.seq (.seq (.reg [mM 6 0, mU 7 (.lenSl 6), mK 8 0]) (.block 0 (.loop [8] [0, 1, 7] (.seq (.reg [mB .lss 9 8 7]) (.seq (.cond 9 .skip (.exit 0)) (.seq (.block 1 (.seq (.reg [mM 10 8, mM 5 10]) (.seq (.reg [mM 11 1, mM 12 0, mM 13 5, mU 14 (.idxAddrSl 6 12 13), mR 15 (.ldN 6 14), mV 16 11 [15] [a89, a257] []]) (.cond 16 (.seq (.reg [mM 17 5, mM 4 17]) .ret) .skip)))) (.reg [mB .add 18 8 (.c 1), mM 8 18]))))))) (.seq (.reg [mK 4 (.i .i64 (-1))]) .ret))
def r197 : List ARes := [.t 4]
theorem k197 (a89 : U) (a257 : U) : compFn Tryz.prog 197 = some ⟨19, (s197 a89 a257).er, r197⟩ := by kernel_rfl
abbrev q197 (O : Ops Tryz.prog) (a89 : U) (a257 : U) := curF 2 (sfn O (s197 a89 a257) r197)
def g197 : { g // g = q197 } := by
  have h : q197 = q197 := rfl
  conv at h => rhs; reduce
  exact ⟨_, h.symm⟩
def C197 : T 197 := mkRun 2 (k197 A89 A257) (by decide) (g197.1 (theOps Tryz.prog) A89 A257) (by rw [g197.2])
/- 178: slices.ContainsFunc[[]rampart/blocks.block,rampart/blocks.block] -/
def s178 (c197 : T 197) : S := .seq (.reg [mK 4 (.b false)]) (.seq (.reg [mM 5 0, mM 6 1, mQ 7 197 [5, 6] c197, mB .geq 8 7 (.c 0), mM 4 8]) .ret)
def r178 : List ARes := [.t 4]
theorem k178 (c197 : T 197) : compFn Tryz.prog 178 = some ⟨9, (s178 c197).er, r178⟩ := by kernel_rfl
abbrev q178 (O : Ops Tryz.prog) (c197 : T 197) := curF 2 (sfn O (s178 c197) r178)
def g178 : { g // g = q178 } := by
  have h : q178 = q178 := rfl
  conv at h => rhs; reduce
  exact ⟨_, h.symm⟩
def C178 : T 178 := mkRun 2 (k178 C197) (by decide) (g178.1 (theOps Tryz.prog) C197) (by rw [g178.2])
/- 179: rampart/blocks.same -/
def s179 : S := .seq (.reg [mN 1 (.box 0), mK 2 .nf]) (.seq (.reg [mU 3 (.mkFunc 257 [] [1]), mM 2 3]) .ret)
def r179 : List ARes := [.t 2]
theorem k179 : compFn Tryz.prog 179 = some ⟨4, (s179).er, r179⟩ := by kernel_rfl
abbrev q179 (O : Ops Tryz.prog) := curF 1 (sfn O (s179) r179)
def g179 : { g // g = q179 } := by
  have h : q179 = q179 := rfl
  conv at h => rhs; reduce
  exact ⟨_, h.symm⟩
def C179 : T 179 := mkRun 1 (k179) (by decide) (g179.1 (theOps Tryz.prog)) (by rw [g179.2])
/- 107: (*rampart/blocks.Blocks).Has -/
def s107 (c178 : T 178) (c179 : T 179) : S := .seq (.reg [mN 3 (.box 1), mK 4 (.b false)]) (.seq (.draw 0 [⟨[], [⟨0, ⟨some 5, .pure (.mv 0), none⟩, 1⟩, ⟨1, ⟨some 6, .pure (.nilCheck 5), none⟩, 1⟩, ⟨2, ⟨some 7, .pure (.fieldAddr 2 6), none⟩, 1⟩, ⟨3, ⟨some 8, .read (.ld1 7), none⟩, 1⟩, ⟨4, ⟨some 9, .read (.ldN 5 3), none⟩, 0⟩], some (mQ 10 179 [9] c179)⟩, ⟨[⟨some 8, .read (.ld1 7), none⟩], [], some (mQ 11 178 [8, 10] c178)⟩, ⟨[], [⟨7, ⟨some 4, .pure (.mv 11), none⟩, 2⟩], none⟩]) .ret)
def r107 : List ARes := [.t 4]
theorem k107 (c178 : T 178) (c179 : T 179) : compFn Tryz.prog 107 = some ⟨12, (s107 c178 c179).er, r107⟩ := by kernel_rfl
abbrev q107 (O : Ops Tryz.prog) (c178 : T 178) (c179 : T 179) := curF 2 (sfn O (s107 c178 c179) r107)
def g107 : { g // g = q107 } := by
  have h : q107 = q107 := rfl
  conv at h => rhs; reduce
  exact ⟨_, h.symm⟩
def C107 : T 107 := mkRun 2 (k107 C178 C179) (by decide) (g107.1 (theOps Tryz.prog) C178 C179) (by rw [g107.2])
/- 53: (*rampart/engine.Engine).blocked -/
def s53 (c98 : T 98) (c107 : T 107) : S := .seq (.reg [mK 4 (.b false)]) (.seq (.seq (.draw 0 [⟨[], [⟨0, ⟨some 5, .pure (.mv 0), none⟩, 0⟩, ⟨1, ⟨some 6, .pure (.nilCheck 5), none⟩, 0⟩, ⟨2, ⟨some 7, .pure (.fieldAddr 13 6), none⟩, 0⟩, ⟨3, ⟨some 8, .read (.ld1 7), none⟩, 0⟩, ⟨4, ⟨some 9, .pure (.mv 1), none⟩, 0⟩, ⟨5, ⟨some 10, .pure (.nilCheck 9), none⟩, 0⟩, ⟨6, ⟨some 11, .pure (.fieldAddr 34 10), none⟩, 0⟩, ⟨7, ⟨some 12, .read (.ldN 5 11), none⟩, 0⟩], some (mQ 13 107 [8, 12] c107)⟩, ⟨[], [], none⟩]) (.cond 13 (.seq (.reg [mM 14 0, mU 15 (.nilCheck 14), mF 15 16 15, mF 3 17 16, mQ 18 98 [17] c98, mM 4 18]) .ret) .skip)) (.seq (.reg [mK 4 (.b true)]) .ret))
def r53 : List ARes := [.t 4]
theorem k53 (c98 : T 98) (c107 : T 107) : compFn Tryz.prog 53 = some ⟨19, (s53 c98 c107).er, r53⟩ := by kernel_rfl
abbrev q53 (O : Ops Tryz.prog) (c98 : T 98) (c107 : T 107) := curF 2 (sfn O (s53 c98 c107) r53)
def g53 : { g // g = q53 } := by
  have h : q53 = q53 := rfl
  conv at h => rhs; reduce
  exact ⟨_, h.symm⟩
def C53 : T 53 := mkRun 2 (k53 C98 C107) (by decide) (g53.1 (theOps Tryz.prog) C98 C107) (by rw [g53.2])
def A53 : U := ⟨53, C53⟩
/- 180: (*rampart/table.Table).get -/
def s180 (c258 : T 258) : S := .seq (.reg [mN 3 (.box 1), mK 4 (.p none)]) (.join [0, 3] [] (.seq (.draw 0 [⟨[], [⟨0, ⟨some 6, .pure (.mv 0), none⟩, 0⟩, ⟨1, ⟨some 7, .pure (.nilCheck 6), none⟩, 0⟩, ⟨2, ⟨some 8, .pure (.fieldAddr 5 7), none⟩, 0⟩, ⟨3, ⟨some 9, .read (.ld1 8), none⟩, 0⟩, ⟨4, ⟨some 10, .read (.ldN 5 3), none⟩, 0⟩, ⟨5, ⟨some 11, .read (.lookup (.flat [(0, .i), (1, .i), (2, .i), (3, .i), (4, .i)]) (.p none) false 9 10), none⟩, 0⟩, ⟨6, ⟨some 5, .pure (.mv 11), none⟩, 0⟩], none⟩]) (.seq (.reg [mM 12 5, mR 13 (.peq true 12 (.c (.p none)))]) (.cond 13 (.seq (.reg [mM 14 5, mM 4 14]) .ret) .skip))) (.seq (.draw 0 [⟨[], [⟨0, ⟨some 15, .pure (.mv 0), none⟩, 1⟩, ⟨1, ⟨some 16, .pure (.nilCheck 15), none⟩, 1⟩, ⟨2, ⟨some 17, .pure (.fieldAddr 5 16), none⟩, 1⟩, ⟨3, ⟨some 18, .read (.ld1 17), none⟩, 1⟩, ⟨4, ⟨some 19, .read (.ldN 5 3), none⟩, 0⟩], some (mQ 20 258 [19] c258)⟩, ⟨[⟨some 18, .read (.ld1 17), none⟩], [⟨6, ⟨some 21, .read (.lookup (.flat [(0, .i), (1, .i), (2, .i), (3, .i), (4, .i)]) (.p none) false 18 20), none⟩, 1⟩, ⟨7, ⟨some 4, .pure (.mv 21), none⟩, 1⟩], none⟩]) .ret))
def r180 : List ARes := [.t 4]
theorem k180 (c258 : T 258) : compFn Tryz.prog 180 = some ⟨22, (s180 c258).er, r180⟩ := by kernel_rfl
abbrev q180 (O : Ops Tryz.prog) (c258 : T 258) := curF 2 (sfn O (s180 c258) r180)
def g180 : { g // g = q180 } := by
  have h : q180 = q180 := rfl
  conv at h => rhs; reduce
  exact ⟨_, h.symm⟩
def C180 : T 180 := mkRun 2 (k180 C258) (by decide) (g180.1 (theOps Tryz.prog) C258) (by rw [g180.2])
/- 182: (*rampart/table.Table).touch -/
def s182 : S := .join [0, 1] [] (.reg [mM 4 1, mM 5 0, mU 6 (.nilCheck 5), mF 2 7 6, mL 8 7, mU 9 (.nilCheck 4), mF 6 10 9, mZ (.st 1 10 8)]) (.join [1] [] (.draw 0 [⟨[], [⟨0, ⟨some 11, .pure (.mv 1), none⟩, 0⟩, ⟨1, ⟨some 12, .pure (.mv 1), none⟩, 1⟩, ⟨2, ⟨some 13, .pure (.mv 0), none⟩, 0⟩, ⟨3, ⟨some 14, .pure (.nilCheck 13), none⟩, 0⟩, ⟨4, ⟨some 15, .pure (.fieldAddr 4 14), none⟩, 0⟩, ⟨5, ⟨some 16, .read (.ld1 15), none⟩, 0⟩, ⟨6, ⟨some 17, .pure (.nilCheck 16), none⟩, 0⟩, ⟨7, ⟨some 18, .pure (.fieldAddr 7 17), none⟩, 0⟩, ⟨8, ⟨some 19, .read (.ld1 18), none⟩, 0⟩, ⟨9, ⟨some 20, .pure (.mv 0), none⟩, 0⟩, ⟨10, ⟨some 21, .pure (.nilCheck 20), none⟩, 0⟩, ⟨11, ⟨some 22, .pure (.fieldAddr 4 21), none⟩, 0⟩, ⟨12, ⟨some 23, .read (.ld1 22), none⟩, 0⟩, ⟨13, ⟨some 24, .pure (.nilCheck 11), none⟩, 0⟩, ⟨14, ⟨some 25, .pure (.fieldAddr 7 24), none⟩, 0⟩], some (mZ (.st 1 25 19))⟩, ⟨[], [⟨16, ⟨some 26, .pure (.nilCheck 12), none⟩, 1⟩, ⟨17, ⟨some 27, .pure (.fieldAddr 8 26), none⟩, 1⟩], some (mZ (.st 1 27 23))⟩, ⟨[], [], none⟩]) (.draw 0 [⟨[], [⟨0, ⟨some 28, .pure (.mv 1), none⟩, 0⟩, ⟨1, ⟨some 29, .pure (.nilCheck 28), none⟩, 0⟩, ⟨2, ⟨some 30, .pure (.fieldAddr 7 29), none⟩, 0⟩, ⟨3, ⟨some 31, .read (.ld1 30), none⟩, 0⟩, ⟨4, ⟨some 32, .pure (.mv 1), none⟩, 0⟩, ⟨5, ⟨some 33, .pure (.nilCheck 32), none⟩, 0⟩, ⟨6, ⟨some 34, .pure (.fieldAddr 8 33), none⟩, 0⟩, ⟨7, ⟨some 35, .read (.ld1 34), none⟩, 0⟩, ⟨8, ⟨some 36, .pure (.mv 1), none⟩, 0⟩, ⟨9, ⟨some 37, .pure (.mv 1), none⟩, 1⟩, ⟨10, ⟨some 38, .pure (.nilCheck 31), none⟩, 0⟩, ⟨11, ⟨some 39, .pure (.fieldAddr 8 38), none⟩, 0⟩], some (mZ (.st 1 39 36))⟩, ⟨[], [⟨13, ⟨some 40, .pure (.nilCheck 35), none⟩, 1⟩, ⟨14, ⟨some 41, .pure (.fieldAddr 7 40), none⟩, 1⟩], some (mZ (.st 1 41 37))⟩, ⟨[], [], none⟩]))
def r182 : List ARes := []
theorem k182 : compFn Tryz.prog 182 = some ⟨42, (s182).er, r182⟩ := by kernel_rfl
abbrev q182 (O : Ops Tryz.prog) := curF 2 (sfn O (s182) r182)
def g182 : { g // g = q182 } := by
  have h : q182 = q182 := rfl
  conv at h => rhs; reduce
  exact ⟨_, h.symm⟩
def C182 : T 182 := mkRun 2 (k182) (by decide) (g182.1 (theOps Tryz.prog)) (by rw [g182.2])
/- 108: (*rampart/table.Table).Find -/
def s108 (c180 : T 180) (c181 : T 181) (c182 : T 182) (c183 : T 183) : S := .seq (.reg [mN 3 (.box 1), mK 4 0, mK 5 0, mK 6 (.b false)]) (.join [0, 3, 7] [] (.reg [mM 8 0, mR 9 (.ldN 5 3), mQ 10 180 [8, 9] c180, mM 7 10]) (.seq (.seq (.reg [mM 11 7, mR 12 (.peq false 11 (.c (.p none)))]) (.cond 12 (.seq (.reg [mK 4 0, mK 5 0, mK 6 (.b false)]) .ret) .skip)) (.seq (.reg [mM 13 7, mQ 14 181 [13] c181]) (.seq (.reg [mM 15 0, mM 16 7, mQ 17 182 [15, 16] c182]) (.seq (.draw 0 [⟨[], [⟨0, ⟨some 19, .read (.ldN 5 3), none⟩, 0⟩, ⟨1, ⟨some 20, .pure (.mv 7), none⟩, 0⟩, ⟨2, ⟨some 21, .pure (.nilCheck 20), none⟩, 0⟩, ⟨3, ⟨some 22, .pure (.fieldAddr 0 21), none⟩, 0⟩, ⟨4, ⟨some 23, .read (.ldN 5 22), none⟩, 0⟩], some (mQ 24 183 [19, 23] c183)⟩, ⟨[], [⟨6, ⟨some 18, .pure (.mv 24), none⟩, 1⟩, ⟨7, ⟨some 25, .pure (.extract 0 18), none⟩, 1⟩, ⟨8, ⟨some 26, .pure (.extract 1 18), none⟩, 1⟩, ⟨9, ⟨some 5, .pure (.mv 25), none⟩, 1⟩], none⟩]) (.seq (.reg [mM 27 7, mU 28 (.nilCheck 27), mF 5 29 28, mL 30 29, mM 31 5, mM 4 30, mM 5 31, mK 6 (.b true)]) .ret))))))
def r108 : List ARes := [.t 4, .t 5, .t 6]
theorem k108 (c180 : T 180) (c181 : T 181) (c182 : T 182) (c183 : T 183) : compFn Tryz.prog 108 = some ⟨32, (s108 c180 c181 c182 c183).er, r108⟩ := by kernel_rfl
abbrev q108 (O : Ops Tryz.prog) (c180 : T 180) (c181 : T 181) (c182 : T 182) (c183 : T 183) := curF 2 (sfn O (s108 c180 c181 c182 c183) r108)
def g108 : { g // g = q108 } := by
  have h : q108 = q108 := rfl
  conv at h => rhs; reduce
  exact ⟨_, h.symm⟩
def C108 : T 108 := mkRun 2 (k108 C180 C181 C182 C183) (by decide) (g108.1 (theOps Tryz.prog) C180 C181 C182 C183) (by rw [g108.2])
/- 109: (*rampart/table.Table).Put -/
def s109 (c108 : T 108) (c182 : T 182) (c184 : T 184) : S := .seq (.reg [mN 3 (.box 1), mK 4 0, mK 5 0]) (.join [0, 3, 5] [] (.seq (.reg [mM 12 0, mR 13 (.ldN 5 3), mQ 14 108 [12, 13] c108, mM 11 14, mU 15 (.extract 0 11), mU 16 (.extract 1 11), mU 17 (.extract 2 11), mM 6 15, mM 7 16, mM 8 17]) (.seq (.reg [mM 18 8]) (.cond 18 (.seq (.reg [mM 19 6, mM 4 19, mK 5 0]) .ret) .skip))) (.join [0, 3, 5] [] (.join [0, 3, 5, 29] [] (.draw 0 [⟨[], [⟨0, ⟨some 20, .pure (.mv 0), none⟩, 0⟩, ⟨1, ⟨some 21, .pure (.nilCheck 20), none⟩, 0⟩, ⟨2, ⟨some 22, .pure (.fieldAddr 5 21), none⟩, 0⟩, ⟨3, ⟨some 23, .read (.ld1 22), none⟩, 0⟩, ⟨4, ⟨some 24, .read (.lenM 23), none⟩, 0⟩, ⟨5, ⟨some 25, .pure (.mv 0), none⟩, 0⟩, ⟨6, ⟨some 26, .pure (.nilCheck 25), none⟩, 0⟩, ⟨7, ⟨some 27, .pure (.fieldAddr 0 26), none⟩, 0⟩, ⟨8, ⟨some 28, .read (.ld1 27), none⟩, 0⟩, ⟨9, ⟨some 29, .pure (.bin .geq 24 28), none⟩, 0⟩], none⟩]) (.cond 29 (.seq (.reg [mM 30 0, mU 31 (.nilCheck 30), mF 4 32 31, mL 33 32, mU 34 (.nilCheck 33), mF 8 35 34, mL 36 35, mM 9 36]) (.seq (.reg [mM 37 9, mU 38 (.nilCheck 37), mF 5 39 38, mL 40 39, mM 5 40]) (.reg [mM 41 0, mM 42 9, mQ 43 184 [41, 42] c184]))) .skip)) (.join [0, 3, 5] [] (.reg [mM 44 0, mU 45 (.nilCheck 44), mF 3 46 45, mL 47 46, mB .add 48 47 (.c 1), mU 49 (.nilCheck 44), mF 3 50 49, mZ (.st 1 50 48)]) (.join [0, 3, 5, 10] [] (.draw 8 [⟨[], [⟨0, ⟨some 51, .read (.ldN 5 3), none⟩, 0⟩, ⟨1, ⟨some 52, .pure (.mv 0), none⟩, 0⟩, ⟨2, ⟨some 53, .pure (.nilCheck 52), none⟩, 0⟩, ⟨3, ⟨some 54, .pure (.fieldAddr 3 53), none⟩, 0⟩, ⟨4, ⟨some 55, .read (.ld1 54), none⟩, 0⟩, ⟨5, ⟨some 56, .pure (.build [0, .i .u32 0, .i .u32 0, 0, 0, 0, 0, .p none, .p none] [(0, (5, 51)), (5, (1, 55))]), none⟩, 0⟩, ⟨6, ⟨some 57, .alloc (.box 56), none⟩, 0⟩, ⟨7, ⟨some 10, .pure (.mv 57), none⟩, 0⟩], none⟩]) (.seq (.draw 0 [⟨[], [⟨0, ⟨some 58, .pure (.mv 0), none⟩, 0⟩, ⟨1, ⟨some 59, .pure (.nilCheck 58), none⟩, 0⟩, ⟨2, ⟨some 60, .pure (.fieldAddr 5 59), none⟩, 0⟩, ⟨3, ⟨some 61, .read (.ld1 60), none⟩, 0⟩, ⟨4, ⟨some 62, .read (.ldN 5 3), none⟩, 0⟩, ⟨5, ⟨some 63, .pure (.mv 10), none⟩, 0⟩], some (mZ (.mapUpd (.flat [(0, .i), (1, .i), (2, .i), (3, .i), (4, .i)]) 61 62 63))⟩, ⟨[], [], none⟩]) (.seq (.reg [mM 64 0, mM 65 10, mQ 66 182 [64, 65] c182]) (.seq (.reg [mM 67 10, mU 68 (.nilCheck 67), mF 5 69 68, mL 70 69, mM 71 5, mM 4 70, mM 5 71]) .ret)))))))
def r109 : List ARes := [.t 4, .t 5]
theorem k109 (c108 : T 108) (c182 : T 182) (c184 : T 184) : compFn Tryz.prog 109 = some ⟨72, (s109 c108 c182 c184).er, r109⟩ := by kernel_rfl
abbrev q109 (O : Ops Tryz.prog) (c108 : T 108) (c182 : T 182) (c184 : T 184) := curF 2 (sfn O (s109 c108 c182 c184) r109)
def g109 : { g // g = q109 } := by
  have h : q109 = q109 := rfl
  conv at h => rhs; reduce
  exact ⟨_, h.symm⟩
def C109 : T 109 := mkRun 2 (k109 C108 C182 C184) (by decide) (g109.1 (theOps Tryz.prog) C108 C182 C184) (by rw [g109.2])
/- 321: rampart/cidr.Has -/
def s321 (c153 : T 153) (c362 : T 362) : S := .seq (.reg [mN 2 (.box 0), mK 4 (.b false)]) (.join [1, 2] [] (.seq (.reg [mR 8 (.ldN 2 2), mQ 9 153 [8] c153, mU 10 (.un .not 9)]) (.cond 10 (.seq (.reg [mK 4 (.b false)]) .ret) .skip)) (.join [1, 2, 5] [] (.reg [mF 1 11 2, mL 12 11, mU 13 (.lenSl 12), mB .eql 14 13 (.c 0), mM 5 14]) (.seq (.seq (.reg [mF 1 15 2, mL 16 15, mU 17 (.lenSl 16), mK 18 0]) (.block 0 (.loop [5, 18] [1, 2, 16, 17] (.seq (.reg [mB .lss 19 18 17]) (.seq (.cond 19 .skip (.exit 0)) (.seq (.block 1 (.seq (.reg [mU 20 (.idxAddrSl 2 16 18), mR 21 (.ldN 2 20), mN 7 (.newz [.i .u32 0, 0]), mZ (.st 2 7 21)]) (.reg [mM 22 5, mM 23 22, (mR 24 (.ldN 2 7)).g 23 false, (mM 25 1).g 23 false, (mQ 26 362 [24, 25] c362).g 23 false, mU 27 (.pick 23 (.c (.b true)) 26), mM 5 27]))) (.reg [mB .add 28 18 (.c 1), mM 18 28]))))))) (.seq (.reg [mM 29 5, mF 0 30 2, mL 31 30, mU 32 (.eqB true 29 31), mM 4 32]) .ret))))
def r321 : List ARes := [.t 4]
theorem k321 (c153 : T 153) (c362 : T 362) : compFn Tryz.prog 321 = some ⟨33, (s321 c153 c362).er, r321⟩ := by kernel_rfl
abbrev q321 (O : Ops Tryz.prog) (c153 : T 153) (c362 : T 362) := curF 2 (sfn O (s321 c153 c362) r321)
def g321 : { g // g = q321 } := by
  have h : q321 = q321 := rfl
  conv at h => rhs; reduce
  exact ⟨_, h.symm⟩
def C321 : T 321 := mkRun 2 (k321 C153 C362) (by decide) (g321.1 (theOps Tryz.prog) C153 C362) (by rw [g321.2])
/- 322: rampart/ports.Has -/
def s322 (c154 : T 154) : S := .seq (.reg [mN 2 (.box 0), mK 4 (.b false)]) (.join [1, 2] [] (.seq (.reg [mR 8 (.ldN 2 2), mQ 9 154 [8] c154, mU 10 (.un .not 9), mM 11 10, (mM 12 1).g 11 false, (mB .lss 13 12 (.c 0)).g 11 false, mU 14 (.pick 11 (.c (.b true)) 13), mM 15 14, (mM 16 1).g 15 false, (mB .gtr 17 16 (.c 65535)).g 15 false, mU 18 (.pick 15 (.c (.b true)) 17)]) (.cond 18 (.seq (.reg [mK 4 (.b false)]) .ret) .skip)) (.join [1, 2, 5] [] (.reg [mF 1 19 2, mL 20 19, mU 21 (.lenSl 20), mB .eql 22 21 (.c 0), mM 5 22]) (.seq (.join [1, 2, 5, 24, 25, 26] [] (.reg [mF 1 23 2, mL 24 23, mU 25 (.lenSl 24), mK 26 0]) (.block 0 (.loop [5, 26] [1, 2, 24, 25] (.seq (.reg [mB .lss 27 26 25]) (.seq (.cond 27 .skip (.exit 0)) (.seq (.block 1 (.seq (.reg [mU 28 (.idxAddrSl 2 24 26), mR 29 (.ldN 2 28), mN 7 (.newz [0, 0]), mZ (.st 2 7 29)]) (.reg [mM 30 5, mM 31 30, (mM 32 1).g 31 false, (mF 0 33 7).g 31 false, (mL 34 33).g 31 false, (mB .geq 35 32 34).g 31 false, (mM 36 35).g 31 false, (mM 37 1).g 36 true, (mF 1 38 7).g 36 true, (mL 39 38).g 36 true, (mB .leq 40 37 39).g 36 true, (mU 41 (.pick 36 40 (.c (.b false)))).g 31 false, mU 42 (.pick 31 (.c (.b true)) 41), mM 5 42]))) (.reg [mB .add 43 26 (.c 1), mM 26 43]))))))) (.seq (.reg [mM 44 5, mF 0 45 2, mL 46 45, mU 47 (.eqB true 44 46), mM 4 47]) .ret))))
def r322 : List ARes := [.t 4]
theorem k322 (c154 : T 154) : compFn Tryz.prog 322 = some ⟨48, (s322 c154).er, r322⟩ := by kernel_rfl
abbrev q322 (O : Ops Tryz.prog) (c154 : T 154) := curF 2 (sfn O (s322 c154) r322)
def g322 : { g // g = q322 } := by
  have h : q322 = q322 := rfl
  conv at h => rhs; reduce
  exact ⟨_, h.symm⟩
def C322 : T 322 := mkRun 2 (k322 C154) (by decide) (g322.1 (theOps Tryz.prog) C154) (by rw [g322.2])
/- 259: (rampart/group.ends).sender -/
def s259 (c321 : T 321) (c322 : T 322) : S := .join [2, 3] [] (.reg [mN 2 (.box 0), mN 3 (.box 1), mK 4 (.b false)]) (.seq (.reg [mF 2 5 2, mR 6 (.ldN 2 5), mF 0 7 3, mL 8 7, mQ 9 321 [6, 8] c321, mM 10 9, (mF 4 11 2).g 10 true, (mR 12 (.ldN 2 11)).g 10 true, (mF 1 13 3).g 10 true, (mL 14 13).g 10 true, (mQ 15 322 [12, 14] c322).g 10 true, mU 16 (.pick 10 15 (.c (.b false))), mM 4 16]) .ret)
def r259 : List ARes := [.t 4]
theorem k259 (c321 : T 321) (c322 : T 322) : compFn Tryz.prog 259 = some ⟨17, (s259 c321 c322).er, r259⟩ := by kernel_rfl
abbrev q259 (O : Ops Tryz.prog) (c321 : T 321) (c322 : T 322) := curF 2 (sfn O (s259 c321 c322) r259)
def g259 : { g // g = q259 } := by
  have h : q259 = q259 := rfl
  conv at h => rhs; reduce
  exact ⟨_, h.symm⟩
def C259 : T 259 := mkRun 2 (k259 C321 C322) (by decide) (g259.1 (theOps Tryz.prog) C321 C322) (by rw [g259.2])
def A259 : U := ⟨259, C259⟩
/- 260: (rampart/group.ends).receiver -/
def s260 (c321 : T 321) (c322 : T 322) : S := .join [2, 3] [] (.reg [mN 2 (.box 0), mN 3 (.box 1), mK 4 (.b false)]) (.seq (.reg [mF 6 5 2, mR 6 (.ldN 2 5), mF 0 7 3, mL 8 7, mQ 9 321 [6, 8] c321, mM 10 9, (mF 8 11 2).g 10 true, (mR 12 (.ldN 2 11)).g 10 true, (mF 1 13 3).g 10 true, (mL 14 13).g 10 true, (mQ 15 322 [12, 14] c322).g 10 true, mU 16 (.pick 10 15 (.c (.b false))), mM 4 16]) .ret)
def r260 : List ARes := [.t 4]
theorem k260 (c321 : T 321) (c322 : T 322) : compFn Tryz.prog 260 = some ⟨17, (s260 c321 c322).er, r260⟩ := by kernel_rfl
abbrev q260 (O : Ops Tryz.prog) (c321 : T 321) (c322 : T 322) := curF 2 (sfn O (s260 c321 c322) r260)
def g260 : { g // g = q260 } := by
  have h : q260 = q260 := rfl
  conv at h => rhs; reduce
  exact ⟨_, h.symm⟩
def C260 : T 260 := mkRun 2 (k260 C321 C322) (by decide) (g260.1 (theOps Tryz.prog) C321 C322) (by rw [g260.2])
def A260 : U := ⟨260, C260⟩
/- 185: rampart/group.Fits -/
def s185 (a259 : U) (a260 : U) : S := .join [2, 3, 4] [] (.reg [mN 3 (.box 0), mN 4 (.box 1), mK 6 (.b false)]) (.join [2, 3, 4] [] (.seq (.reg [mM 12 2, mB .lss 13 12 (.c 0), mM 14 13, (mM 15 2).g 14 false, (mB .gtr 16 15 (.c 1)).g 14 false, mU 17 (.pick 14 (.c (.b true)) 16), mM 18 17, (mF 1 19 3).g 18 false, (mL 20 19).g 18 false, (mB .neq 21 20 (.c 0)).g 18 false, (mM 22 21).g 18 false, (mF 1 23 3).g 22 true, (mL 24 23).g 22 true, (mF 0 25 4).g 22 true, (mL 26 25).g 22 true, (mB .neq 27 24 26).g 22 true, (mU 28 (.pick 22 27 (.c (.b false)))).g 18 false, mU 29 (.pick 18 (.c (.b true)) 28)]) (.cond 29 (.seq (.reg [mK 6 (.b false)]) .ret) .skip)) (.join [2, 3, 7, 8] [] (.draw 14 [⟨[], [⟨0, ⟨some 30, .pure (.fieldAddr 1 4), none⟩, 0⟩, ⟨1, ⟨some 31, .read (.ld1 30), none⟩, 0⟩, ⟨2, ⟨some 32, .pure (.fieldAddr 3 4), none⟩, 0⟩, ⟨3, ⟨some 33, .read (.ld1 32), none⟩, 0⟩, ⟨4, ⟨some 34, .pure (.build [.i .u32 0, 0] [(0, (1, 31)), (1, (1, 33))]), none⟩, 0⟩, ⟨5, ⟨some 35, .pure (.fieldAddr 2 4), none⟩, 1⟩, ⟨6, ⟨some 36, .read (.ld1 35), none⟩, 1⟩, ⟨7, ⟨some 37, .pure (.fieldAddr 4 4), none⟩, 1⟩, ⟨8, ⟨some 38, .read (.ld1 37), none⟩, 1⟩, ⟨9, ⟨some 39, .pure (.build [.i .u32 0, 0] [(0, (1, 36)), (1, (1, 38))]), none⟩, 1⟩, ⟨10, ⟨some 7, .alloc (.newz [.i .u32 0, 0]), none⟩, 0⟩, ⟨11, ⟨some 8, .alloc (.newz [.i .u32 0, 0]), none⟩, 0⟩], some (mZ (.st 2 7 34))⟩, ⟨[⟨some 36, .read (.ld1 35), none⟩, ⟨some 38, .read (.ld1 37), none⟩], [], some (mZ (.st 2 8 39))⟩, ⟨[], [], none⟩]) (.join [2, 3, 7, 8] [] (.seq (.reg [mM 40 2, mB .eql 41 40 (.c 1)]) (.cond 41 (.reg [mR 42 (.ldN 2 8), mR 43 (.ldN 2 7), mZ (.st 2 7 42), mZ (.st 2 8 43)]) .skip)) (.join [2, 3, 7, 8, 9, 10] [] (.draw 0 [⟨[], [⟨0, ⟨some 44, .read (.ldN 15 3), none⟩, 0⟩, ⟨1, ⟨some 45, .pure (.mkFunc 259 [44] []), none⟩, 0⟩, ⟨2, ⟨some 46, .read (.ldN 15 3), none⟩, 0⟩, ⟨3, ⟨some 47, .pure (.mkFunc 260 [46] []), none⟩, 0⟩, ⟨4, ⟨some 9, .pure (.mv 45), none⟩, 0⟩, ⟨5, ⟨some 10, .pure (.mv 47), none⟩, 0⟩], none⟩]) (.join [2, 3, 11] [] (.reg [mM 48 9, mR 49 (.ldN 2 7), mV 50 48 [49] [a259, a260] [], mM 51 50, (mM 52 10).g 51 true, (mR 53 (.ldN 2 8)).g 51 true, (mV 54 52 [53] [a259, a260] []).g 51 true, mU 55 (.pick 51 54 (.c (.b false))), mM 56 55, (mF 10 57 3).g 56 false, (mL 58 57).g 56 false, (mM 59 58).g 56 false, (mM 60 9).g 59 true, (mR 61 (.ldN 2 8)).g 59 true, (mV 62 60 [61] [a259, a260] []).g 59 true, (mU 63 (.pick 59 62 (.c (.b false)))).g 56 false, (mM 64 63).g 56 false, (mM 65 10).g 64 true, (mR 66 (.ldN 2 7)).g 64 true, (mV 67 65 [66] [a259, a260] []).g 64 true, (mU 68 (.pick 64 67 (.c (.b false)))).g 56 false, mU 69 (.pick 56 (.c (.b true)) 68), mM 11 69]) (.seq (.reg [mM 70 11, mM 71 70, (mF 11 72 3).g 71 true, (mL 73 72).g 71 true, (mB .eql 74 73 (.c 0)).g 71 true, (mM 75 74).g 71 true, (mF 11 76 3).g 75 false, (mL 77 76).g 75 false, (mB .eql 78 77 (.c 1)).g 75 false, (mM 79 78).g 75 false, (mM 80 2).g 79 true, (mB .eql 81 80 (.c 0)).g 79 true, (mU 82 (.pick 79 81 (.c (.b false)))).g 75 false, (mU 83 (.pick 75 (.c (.b true)) 82)).g 71 true, (mM 84 83).g 71 true, (mF 11 85 3).g 84 false, (mL 86 85).g 84 false, (mB .eql 87 86 (.c 2)).g 84 false, (mM 88 87).g 84 false, (mM 89 2).g 88 true, (mB .eql 90 89 (.c 1)).g 88 true, (mU 91 (.pick 88 90 (.c (.b false)))).g 84 false, (mU 92 (.pick 84 (.c (.b true)) 91)).g 71 true, mU 93 (.pick 71 92 (.c (.b false))), mM 6 93]) .ret))))))
def r185 : List ARes := [.t 6]
theorem k185 (a259 : U) (a260 : U) : compFn Tryz.prog 185 = some ⟨94, (s185 a259 a260).er, r185⟩ := by kernel_rfl
abbrev q185 (O : Ops Tryz.prog) (a259 : U) (a260 : U) := curF 3 (sfn O (s185 a259 a260) r185)
def g185 : { g // g = q185 } := by
  have h : q185 = q185 := rfl
  conv at h => rhs; reduce
  exact ⟨_, h.symm⟩
def C185 : T 185 := mkRun 3 (k185 A259 A260) (by decide) (g185.1 (theOps Tryz.prog) A259 A260) (by rw [g185.2])
/- 110: rampart/group.Pick -/
def s110 (c185 : T 185) : S := .seq (.reg [mN 4 (.box 1), mK 6 (.sl 0 none 0 0)]) (.seq (.reg [mK 7 (.sl 0 none 0 0)]) (.seq (.seq (.reg [mM 10 0, mU 11 (.lenSl 10), mK 12 0]) (.block 0 (.loop [7, 12] [2, 4, 10, 11] (.seq (.reg [mB .lss 13 12 11]) (.seq (.cond 13 .skip (.exit 0)) (.join [2, 4, 7, 10, 11, 12] [] (.block 1 (.seq (.reg [mM 14 12, mU 15 (.idxAddrSl 15 10 12), mR 16 (.ldN 15 15), mN 9 (.newz [0, 0, .b false, .sl 0 none 0 0, .b false, .sl 0 none 0 0, .b false, .sl 0 none 0 0, .b false, .sl 0 none 0 0, .b false, 0, .sl 0 none 0 0, 0, 0]), mM 8 14, mZ (.st 15 9 16)]) (.seq (.reg [mR 17 (.ldN 15 9), mR 18 (.ldN 5 4), mM 19 2, mQ 20 185 [17, 18, 19] c185]) (.cond 20 (.reg [mM 21 7, mM 22 8, mN 23 (.bslice 1 1 [0] [(0, (1, 22))]), mY 24 (.append 1 8 21 23), mM 7 24]) .skip)))) (.reg [mB .add 25 12 (.c 1), mM 12 25]))))))) (.seq (.reg [mM 26 7, mM 6 26]) .ret)))
def r110 : List ARes := [.t 6]
theorem k110 (c185 : T 185) : compFn Tryz.prog 110 = some ⟨27, (s110 c185).er, r110⟩ := by kernel_rfl
abbrev q110 (O : Ops Tryz.prog) (c185 : T 185) := curF 3 (sfn O (s110 c185) r110)
def g110 : { g // g = q110 } := by
  have h : q110 = q110 := rfl
  conv at h => rhs; reduce
  exact ⟨_, h.symm⟩
def C110 : T 110 := mkRun 3 (k110 C185) (by decide) (g110.1 (theOps Tryz.prog) C185) (by rw [g110.2])
/- 54: (*rampart/engine.Engine).known -/
def s54 (c98 : T 98) (c108 : T 108) (c109 : T 109) (c110 : T 110) : S := .seq (.reg [mK 4 (.b false)]) (.join [0, 1, 5, 6, 7] [] (.draw 0 [⟨[], [⟨0, ⟨some 12, .pure (.mv 0), none⟩, 0⟩, ⟨1, ⟨some 13, .pure (.nilCheck 12), none⟩, 0⟩, ⟨2, ⟨some 14, .pure (.fieldAddr 12 13), none⟩, 0⟩, ⟨3, ⟨some 15, .read (.ld1 14), none⟩, 0⟩, ⟨4, ⟨some 16, .pure (.mv 1), none⟩, 0⟩, ⟨5, ⟨some 17, .pure (.nilCheck 16), none⟩, 0⟩, ⟨6, ⟨some 18, .pure (.fieldAddr 34 17), none⟩, 0⟩, ⟨7, ⟨some 19, .read (.ldN 5 18), none⟩, 0⟩], some (mQ 20 108 [15, 19] c108)⟩, ⟨[], [⟨9, ⟨some 11, .pure (.mv 20), none⟩, 1⟩, ⟨10, ⟨some 21, .pure (.extract 0 11), none⟩, 1⟩, ⟨11, ⟨some 22, .pure (.extract 1 11), none⟩, 1⟩, ⟨12, ⟨some 23, .pure (.extract 2 11), none⟩, 1⟩, ⟨13, ⟨some 5, .pure (.mv 21), none⟩, 1⟩, ⟨14, ⟨some 6, .pure (.mv 22), none⟩, 1⟩, ⟨15, ⟨some 7, .pure (.mv 23), none⟩, 1⟩], none⟩]) (.join [0, 1] [] (.seq (.reg [mM 24 7]) (.cond 24 (.seq (.reg [mM 25 1, mM 26 1, mM 27 1, mM 28 5, mM 29 6, mM 30 0, mU 31 (.nilCheck 30), mF 14 32 31, mL 33 32, mM 34 5, mR 35 (.lookup (.one .i) (.p none) false 33 34), mU 36 (.nilCheck 25), mF 39 37 36, mZ (.st 1 37 28), mU 38 (.nilCheck 26), mF 40 39 38, mZ (.st 1 39 29), mU 40 (.nilCheck 27), mF 42 41 40, mZ (.st 1 41 35)]) (.seq (.reg [mM 42 1, mU 43 (.nilCheck 42), mF 42 44 43, mL 45 44, mR 46 (.peq true 45 (.c (.p none))), mM 4 46]) .ret)) .skip)) (.join [0, 1] [] (.seq (.reg [mM 47 1, mU 48 (.nilCheck 47), mF 34 49 48, mF 0 50 49, mL 51 50, mB .eql 52 51 (.c 6), mM 53 52, (mM 54 1).g 53 true, (mU 55 (.nilCheck 54)).g 53 true, (mF 26 56 55).g 53 true, (mF 4 57 56).g 53 true, (mL 58 57).g 53 true, (mB .andNot 59 58 (.c 8)).g 53 true, (mB .neq 60 59 (.c 2)).g 53 true, (mM 61 60).g 53 true, (mM 62 1).g 61 false, (mU 63 (.nilCheck 62)).g 61 false, (mF 33 64 63).g 61 false, (mL 65 64).g 61 false, (mB .neq 66 65 (.c (.s []))).g 61 false, (mU 67 (.pick 61 (.c (.b true)) 66)).g 53 true, mU 68 (.pick 53 67 (.c (.b false)))]) (.cond 68 (.seq (.reg [mM 69 0, mU 70 (.nilCheck 69), mF 15 71 70, mF 5 72 71, mQ 73 98 [72] c98, mM 4 73]) .ret) .skip)) (.join [0, 1, 5, 8] [] (.draw 0 [⟨[], [⟨0, ⟨some 75, .pure (.mv 0), none⟩, 0⟩, ⟨1, ⟨some 76, .pure (.nilCheck 75), none⟩, 0⟩, ⟨2, ⟨some 77, .pure (.fieldAddr 12 76), none⟩, 0⟩, ⟨3, ⟨some 78, .read (.ld1 77), none⟩, 0⟩, ⟨4, ⟨some 79, .pure (.mv 1), none⟩, 0⟩, ⟨5, ⟨some 80, .pure (.nilCheck 79), none⟩, 0⟩, ⟨6, ⟨some 81, .pure (.fieldAddr 34 80), none⟩, 0⟩, ⟨7, ⟨some 82, .read (.ldN 5 81), none⟩, 0⟩], some (mQ 83 109 [78, 82] c109)⟩, ⟨[], [⟨9, ⟨some 74, .pure (.mv 83), none⟩, 1⟩, ⟨10, ⟨some 84, .pure (.extract 0 74), none⟩, 1⟩, ⟨11, ⟨some 85, .pure (.extract 1 74), none⟩, 1⟩, ⟨12, ⟨some 5, .pure (.mv 84), none⟩, 1⟩, ⟨13, ⟨some 8, .pure (.mv 85), none⟩, 1⟩], none⟩]) (.join [0, 1, 5] [] (.seq (.reg [mM 86 8, mB .gtr 87 86 (.c 0)]) (.cond 87 (.seq (.reg [mM 88 0, mU 89 (.nilCheck 88), mF 15 90 89, mF 10 91 90, mL 92 91, mB .add 93 92 (.c 1), mU 94 (.nilCheck 88), mF 15 95 94, mF 10 96 95, mZ (.st 1 96 93)]) (.reg [mM 97 0, mU 98 (.nilCheck 97), mF 14 99 98, mL 100 99, mM 101 8, mZ (.del (.one .i) 100 101)])) .skip)) (.join [0, 1, 5, 9] [] (.draw 11 [⟨[], [⟨0, ⟨some 102, .pure (.mv 1), none⟩, 0⟩, ⟨1, ⟨some 103, .pure (.nilCheck 102), none⟩, 0⟩, ⟨2, ⟨some 104, .pure (.fieldAddr 34 103), none⟩, 0⟩, ⟨3, ⟨some 105, .read (.ldN 5 104), none⟩, 0⟩, ⟨4, ⟨some 106, .pure (.mv 0), none⟩, 0⟩, ⟨5, ⟨some 107, .pure (.nilCheck 106), none⟩, 0⟩, ⟨6, ⟨some 108, .pure (.fieldAddr 9 107), none⟩, 0⟩, ⟨7, ⟨some 109, .read (.ld1 108), none⟩, 0⟩, ⟨8, ⟨some 110, .pure (.build [0, .i .u32 0, .i .u32 0, 0, 0, .sl 0 none 0 0, .sl 0 none 0 0, .sl 0 none 0 0, .p none, .p none, .p none, .p none, .b false] [(0, (5, 105)), (5, (1, 109))]), none⟩, 0⟩, ⟨9, ⟨some 111, .alloc (.box 110), none⟩, 0⟩, ⟨10, ⟨some 9, .pure (.mv 111), none⟩, 0⟩], none⟩]) (.join [0, 1, 5, 9] [] (.seq (.reg [mK 112 0]) (.block 0 (.loop [112] [0, 1, 5, 9] (.seq (.reg [mB .lss 113 112 (.c 2)]) (.seq (.cond 113 .skip (.exit 0)) (.seq (.block 1 (.seq (.reg [mM 114 112, mM 10 114]) (.draw 0 [⟨[], [⟨0, ⟨some 115, .pure (.mv 9), none⟩, 1⟩, ⟨1, ⟨some 116, .pure (.mv 10), none⟩, 1⟩, ⟨2, ⟨some 117, .pure (.mv 9), none⟩, 0⟩, ⟨3, ⟨some 118, .pure (.nilCheck 117), none⟩, 0⟩, ⟨4, ⟨some 119, .pure (.fieldAddr 5 118), none⟩, 0⟩, ⟨5, ⟨some 120, .read (.ld1 119), none⟩, 0⟩, ⟨6, ⟨some 121, .pure (.mv 9), none⟩, 0⟩, ⟨7, ⟨some 122, .pure (.nilCheck 121), none⟩, 0⟩, ⟨8, ⟨some 123, .pure (.fieldAddr 0 122), none⟩, 0⟩, ⟨9, ⟨some 124, .read (.ldN 5 123), none⟩, 0⟩, ⟨10, ⟨some 125, .pure (.mv 10), none⟩, 0⟩, ⟨12, ⟨some 127, .pure (.nilCheck 115), none⟩, 1⟩, ⟨13, ⟨some 128, .pure (.fieldAddr 6 127), none⟩, 1⟩], some (mQ 126 110 [120, 124, 125] c110)⟩, ⟨[], [⟨14, ⟨some 129, .pure (.idxAddrArr 2 1 128 116), none⟩, 1⟩], some (mZ (.st 1 129 126))⟩, ⟨[], [], none⟩]))) (.reg [mB .add 130 112 (.c 1), mM 112 130]))))))) (.join [1, 5, 9] [] (.reg [mM 131 0, mU 132 (.nilCheck 131), mF 14 133 132, mL 134 133, mM 135 5, mM 136 9, mZ (.mapUpd (.one .i) 134 135 136)]) (.seq (.reg [mM 137 1, mM 138 1, mM 139 1, mM 140 1, mM 141 5, mM 142 9, mU 143 (.nilCheck 137), mF 39 144 143, mZ (.st 1 144 141), mU 145 (.nilCheck 138), mF 40 146 145, mZ (.st 1 146 (.c 0)), mU 147 (.nilCheck 139), mF 42 148 147, mZ (.st 1 148 142), mU 149 (.nilCheck 140), mF 41 150 149, mZ (.st 1 150 (.c (.b true)))]) (.seq (.reg [mK 4 (.b true)]) .ret))))))))))
def r54 : List ARes := [.t 4]
theorem k54 (c98 : T 98) (c108 : T 108) (c109 : T 109) (c110 : T 110) : compFn Tryz.prog 54 = some ⟨151, (s54 c98 c108 c109 c110).er, r54⟩ := by kernel_rfl
abbrev q54 (O : Ops Tryz.prog) (c98 : T 98) (c108 : T 108) (c109 : T 109) (c110 : T 110) := curF 2 (sfn O (s54 c98 c108 c109 c110) r54)
def g54 : { g // g = q54 } := by
  have h : q54 = q54 := rfl
  conv at h => rhs; reduce
  exact ⟨_, h.symm⟩
def C54 : T 54 := mkRun 2 (k54 C98 C108 C109 C110) (by decide) (g54.1 (theOps Tryz.prog) C98 C108 C109 C110) (by rw [g54.2])
def A54 : U := ⟨54, C54⟩
/- 55: (*rampart/engine.Engine).dead -/
def s55 (c98 : T 98) : S := .seq (.reg [mK 4 (.b false)]) (.seq (.seq (.reg [mM 5 1, mU 6 (.nilCheck 5), mF 42 7 6, mL 8 7, mU 9 (.nilCheck 8), mF 12 10 9, mL 11 10]) (.cond 11 (.seq (.reg [mM 12 0, mU 13 (.nilCheck 12), mF 15 14 13, mF 4 15 14, mQ 16 98 [15] c98, mM 4 16]) .ret) .skip)) (.seq (.reg [mK 4 (.b true)]) .ret))
def r55 : List ARes := [.t 4]
theorem k55 (c98 : T 98) : compFn Tryz.prog 55 = some ⟨17, (s55 c98).er, r55⟩ := by kernel_rfl
abbrev q55 (O : Ops Tryz.prog) (c98 : T 98) := curF 2 (sfn O (s55 c98) r55)
def g55 : { g // g = q55 } := by
  have h : q55 = q55 := rfl
  conv at h => rhs; reduce
  exact ⟨_, h.symm⟩
def C55 : T 55 := mkRun 2 (k55 C98) (by decide) (g55.1 (theOps Tryz.prog) C98) (by rw [g55.2])
def A55 : U := ⟨55, C55⟩
/- 186: rampart/track.New -/
def s186 : S := .seq (.reg [mK 4 (.p none)]) (.join [0, 5] [] (.reg [mM 9 1, mU 10 (.mxmn false [9, .c 32]), mU 11 (.mxmn true [.c 1, 10]), mU 12 (.build [0, 0, .sl 0 none 0 0, .sl 0 none 0 0, .b false, .b false] [(0, (1, 11))]), mN 13 (.box 12), mM 5 13]) (.seq (.seq (.reg [mM 14 0, mU 15 (.lenSl 14), mK 16 0]) (.block 0 (.loop [16] [5, 14, 15] (.seq (.reg [mB .lss 17 16 15]) (.seq (.cond 17 .skip (.exit 0)) (.join [5, 14, 15, 16] [] (.block 1 (.join [5, 6, 7, 14, 15, 16] [] (.reg [mM 18 16, mU 19 (.idxAddrSl 8 14 16), mR 20 (.ldN 8 19), mN 7 (.newz [.s [], .b false, .b false, 0, 0, .b false, 0, 0]), mM 6 18, mZ (.st 8 7 20)]) (.join [5, 6, 7, 14, 15, 16] [] (.join [5, 6, 7, 14, 15, 16, 22] [] (.reg [mF 2 21 7, mL 22 21]) (.cond 22 (.seq (.draw 13 [⟨[], [⟨0, ⟨some 23, .pure (.mv 5), none⟩, 1⟩, ⟨1, ⟨some 24, .pure (.mv 5), none⟩, 0⟩, ⟨2, ⟨some 25, .pure (.nilCheck 24), none⟩, 0⟩, ⟨3, ⟨some 26, .pure (.fieldAddr 3 25), none⟩, 0⟩, ⟨4, ⟨some 27, .read (.ld1 26), none⟩, 0⟩, ⟨5, ⟨some 28, .read (.ldN 8 7), none⟩, 0⟩, ⟨6, ⟨some 29, .pure (.mv 6), none⟩, 0⟩, ⟨7, ⟨some 30, .pure (.build [.s [], .b false, .b false, 0, 0, .b false, 0, 0, 0, .b false, 0, .b false, .p none, 0, .b false] [(0, (8, 28)), (8, (1, 29))]), none⟩, 0⟩, ⟨8, ⟨some 31, .alloc (.bslice 15 1 [.s [], .b false, .b false, 0, 0, .b false, 0, 0, 0, .b false, 0, .b false, .p none, 0, .b false] [(0, (15, 30))]), none⟩, 0⟩], some (mY 32 (.append 15 120 27 31))⟩, ⟨[], [⟨10, ⟨some 33, .pure (.nilCheck 23), none⟩, 1⟩, ⟨11, ⟨some 34, .pure (.fieldAddr 3 33), none⟩, 1⟩], some (mZ (.st 1 34 32))⟩, ⟨[], [], none⟩]) (.exit 1)) .skip)) (.join [5, 6, 7, 14, 15, 16] [] (.join [5, 6, 7, 8, 14, 15, 16] [] (.reg [mM 35 5, mU 36 (.nilCheck 35), mF 2 37 36, mL 38 37, mU 39 (.lenSl 38), mM 8 39]) (.join [5, 6, 7, 8, 14, 15, 16, 50] [] (.reg [mM 40 8, mB .gtr 41 40 (.c 0), mM 42 41, (mF 5 43 7).g 42 true, (mL 44 43).g 42 true, mU 45 (.pick 42 44 (.c (.b false))), mM 46 45, (mF 7 47 7).g 46 true, (mL 48 47).g 46 true, (mB .gtr 49 48 (.c 0)).g 46 true, mU 50 (.pick 46 49 (.c (.b false)))]) (.cond 50 (.draw 0 [⟨[], [⟨0, ⟨some 51, .pure (.mv 5), none⟩, 0⟩, ⟨1, ⟨some 52, .pure (.nilCheck 51), none⟩, 0⟩, ⟨2, ⟨some 53, .pure (.fieldAddr 2 52), none⟩, 0⟩, ⟨3, ⟨some 54, .read (.ld1 53), none⟩, 0⟩, ⟨4, ⟨some 55, .pure (.mv 8), none⟩, 0⟩, ⟨5, ⟨some 56, .pure (.bin .sub 55 (.c 1)), none⟩, 0⟩, ⟨6, ⟨some 57, .pure (.idxAddrSl 1 54 56), none⟩, 0⟩, ⟨7, ⟨some 58, .read (.ld1 57), none⟩, 0⟩, ⟨8, ⟨some 59, .pure (.mv 5), none⟩, 0⟩, ⟨9, ⟨some 60, .pure (.nilCheck 59), none⟩, 0⟩, ⟨10, ⟨some 61, .pure (.fieldAddr 2 60), none⟩, 0⟩, ⟨11, ⟨some 62, .read (.ld1 61), none⟩, 0⟩, ⟨12, ⟨some 63, .pure (.mv 8), none⟩, 0⟩, ⟨13, ⟨some 64, .pure (.bin .sub 63 (.c 1)), none⟩, 0⟩, ⟨14, ⟨some 65, .pure (.idxAddrSl 1 62 64), none⟩, 0⟩, ⟨15, ⟨some 66, .read (.ld1 65), none⟩, 0⟩, ⟨16, ⟨some 67, .pure (.fieldAddr 6 7), none⟩, 1⟩, ⟨17, ⟨some 68, .read (.ld1 67), none⟩, 1⟩, ⟨18, ⟨some 69, .pure (.fieldAddr 7 7), none⟩, 1⟩, ⟨19, ⟨some 70, .read (.ld1 69), none⟩, 1⟩, ⟨20, ⟨some 71, .pure (.bin .add 68 70), none⟩, 1⟩, ⟨21, ⟨some 72, .pure (.nilCheck 58), none⟩, 0⟩, ⟨22, ⟨some 73, .pure (.fieldAddr 11 72), none⟩, 0⟩], some (mZ (.st 1 73 (.c (.b false))))⟩, ⟨[⟨some 68, .read (.ld1 67), none⟩, ⟨some 70, .read (.ld1 69), none⟩], [⟨24, ⟨some 74, .pure (.nilCheck 66), none⟩, 1⟩, ⟨25, ⟨some 75, .pure (.fieldAddr 10 74), none⟩, 1⟩], some (mZ (.st 1 75 71))⟩, ⟨[], [], none⟩]) .skip))) (.draw 20 [⟨[], [⟨0, ⟨some 76, .pure (.mv 5), none⟩, 1⟩, ⟨1, ⟨some 77, .pure (.mv 5), none⟩, 0⟩, ⟨2, ⟨some 78, .pure (.nilCheck 77), none⟩, 0⟩, ⟨3, ⟨some 79, .pure (.fieldAddr 2 78), none⟩, 0⟩, ⟨4, ⟨some 80, .read (.ld1 79), none⟩, 0⟩, ⟨5, ⟨some 81, .read (.ldN 8 7), none⟩, 0⟩, ⟨6, ⟨some 82, .pure (.mv 6), none⟩, 0⟩, ⟨7, ⟨some 83, .pure (.mv 5), none⟩, 0⟩, ⟨8, ⟨some 84, .pure (.nilCheck 83), none⟩, 0⟩, ⟨9, ⟨some 85, .pure (.fieldAddr 2 84), none⟩, 0⟩, ⟨10, ⟨some 86, .read (.ld1 85), none⟩, 0⟩, ⟨11, ⟨some 87, .pure (.lenSl 86), none⟩, 0⟩, ⟨12, ⟨some 88, .pure (.bin .eql 87 (.c 0)), none⟩, 0⟩, ⟨13, ⟨some 89, .pure (.build [.s [], .b false, .b false, 0, 0, .b false, 0, 0, 0, .b false, 0, .b false, .p none, 0, .b false] [(0, (8, 81)), (8, (1, 82)), (9, (1, 88)), (11, (1, .c (.b true)))]), none⟩, 0⟩, ⟨14, ⟨some 90, .alloc (.box 89), none⟩, 0⟩, ⟨15, ⟨some 91, .alloc (.bslice 1 1 [.p none] [(0, (1, 90))]), none⟩, 0⟩], some (mY 92 (.append 1 8 80 91))⟩, ⟨[], [⟨17, ⟨some 93, .pure (.nilCheck 76), none⟩, 1⟩, ⟨18, ⟨some 94, .pure (.fieldAddr 2 93), none⟩, 1⟩], some (mZ (.st 1 94 92))⟩, ⟨[], [], none⟩]))))) (.reg [mB .add 95 16 (.c 1), mM 16 95]))))))) (.seq (.reg [mM 96 5, mM 4 96]) .ret)))
def r186 : List ARes := [.t 4]
theorem k186 : compFn Tryz.prog 186 = some ⟨97, (s186).er, r186⟩ := by kernel_rfl
abbrev q186 (O : Ops Tryz.prog) := curF 2 (sfn O (s186) r186)
def g186 : { g // g = q186 } := by
  have h : q186 = q186 := rfl
  conv at h => rhs; reduce
  exact ⟨_, h.symm⟩
def C186 : T 186 := mkRun 2 (k186) (by decide) (g186.1 (theOps Tryz.prog)) (by rw [g186.2])
/- 187: rampart/scan.New -/
def s187 : S := .seq (.reg [mK 6 (.p none)]) (.seq (.reg [mM 7 0, mM 8 1, mY 9 (.append 1 16 (.c (.sl 0 none 0 0)) 8), mM 10 2, mY 11 (.append 1 1 (.c (.sl 0 none 0 0)) 10), mU 12 (.build [.p none, .sl 0 none 0 0, .sl 0 none 0 0, 0, 0, .i .u8 0, .i .u8 0, .i .u8 0, .i .u8 0, .i .u8 0, .i .u8 0, .i .u8 0, .i .u8 0, .i .u8 0, .i .u8 0, .i .u8 0, .i .u8 0, .i .u8 0, .i .u8 0, .i .u8 0, .i .u8 0] [(0, (1, 7)), (1, (1, 9)), (2, (1, 11))]), mN 13 (.box 12), mM 6 13]) .ret)
def r187 : List ARes := [.t 6]
theorem k187 : compFn Tryz.prog 187 = some ⟨14, (s187).er, r187⟩ := by kernel_rfl
abbrev q187 (O : Ops Tryz.prog) := curF 3 (sfn O (s187) r187)
def g187 : { g // g = q187 } := by
  have h : q187 = q187 := rfl
  conv at h => rhs; reduce
  exact ⟨_, h.symm⟩
def C187 : T 187 := mkRun 3 (k187) (by decide) (g187.1 (theOps Tryz.prog)) (by rw [g187.2])
/- 111: rampart/verdict.New -/
def s111 (c45 : T 45) (c46 : T 46) (c186 : T 186) (c187 : T 187) : S := .seq (.reg [mK 6 (.p none)]) (.join [0, 1, 2, 7] [] (.reg [mU 19 (.build [.p none, .sl 0 none 0 0, .sl 0 none 0 0, 0] []), mN 20 (.box 19), mM 7 20]) (.seq (.reg [mK 8 (.sl 0 none 0 0), mK 9 (.sl 0 none 0 0)]) (.seq (.reg [mK 10 (.sl 0 none 0 0)]) (.seq (.seq (.reg [mM 21 1, mU 22 (.lenSl 21), mK 23 0]) (.block 0 (.loop [8, 9, 10, 23] [0, 2, 7, 21, 22] (.seq (.reg [mB .lss 24 23 22]) (.seq (.cond 24 .skip (.exit 0)) (.join [0, 2, 7, 8, 9, 10, 21, 22, 23] [] (.block 1 (.join [0, 2, 7, 8, 9, 10, 12, 21, 22, 23] [] (.reg [mU 25 (.idxAddrSl 1 21 23), mL 26 25, mM 12 26]) (.join [0, 2, 7, 8, 9, 10, 12, 21, 22, 23] [] (.seq (.reg [mM 27 12, mB .lss 28 27 (.c 0), mM 29 28, (mM 30 12).g 29 false, (mM 31 0).g 29 false, (mU 32 (.lenSl 31)).g 29 false, (mB .geq 33 30 32).g 29 false, mU 34 (.pick 29 (.c (.b true)) 33)]) (.cond 34 (.exit 1) .skip)) (.join [0, 2, 7, 8, 9, 10, 12, 13, 21, 22, 23] [] (.draw 21 [⟨[], [⟨0, ⟨some 35, .pure (.mv 0), none⟩, 1⟩, ⟨1, ⟨some 36, .pure (.mv 12), none⟩, 1⟩, ⟨2, ⟨some 37, .pure (.idxAddrSl 15 35 36), none⟩, 1⟩, ⟨3, ⟨some 38, .read (.ldN 15 37), none⟩, 1⟩, ⟨4, ⟨some 39, .pure (.mv 0), none⟩, 0⟩, ⟨5, ⟨some 40, .pure (.mv 12), none⟩, 0⟩, ⟨6, ⟨some 41, .pure (.idxAddrSl 15 39 40), none⟩, 0⟩, ⟨7, ⟨some 42, .pure (.fieldAddr 12 41), none⟩, 0⟩, ⟨8, ⟨some 43, .read (.ld1 42), none⟩, 0⟩, ⟨9, ⟨some 44, .pure (.mv 2), none⟩, 0⟩, ⟨11, ⟨some 46, .pure (.mv 0), none⟩, 1⟩, ⟨12, ⟨some 47, .pure (.mv 12), none⟩, 1⟩, ⟨13, ⟨some 48, .pure (.idxAddrSl 15 46 47), none⟩, 1⟩, ⟨14, ⟨some 49, .pure (.fieldAddr 12 48), none⟩, 1⟩, ⟨15, ⟨some 50, .read (.ld1 49), none⟩, 1⟩, ⟨16, ⟨some 51, .pure (.lenSl 50), none⟩, 1⟩, ⟨17, ⟨some 52, .alloc (.mkslice 1 1 [.b false] 51 51), none⟩, 1⟩], some (mQ 45 186 [43, 44] c186)⟩, ⟨[⟨some 38, .read (.ldN 15 37), none⟩, ⟨some 50, .read (.ld1 49), none⟩], [⟨18, ⟨some 53, .pure (.build [0, 0, .b false, .sl 0 none 0 0, .b false, .sl 0 none 0 0, .b false, .sl 0 none 0 0, .b false, .sl 0 none 0 0, .b false, 0, .sl 0 none 0 0, 0, 0, .p none, .sl 0 none 0 0, .b false] [(0, (15, 38)), (15, (1, 45)), (16, (1, 52))]), none⟩, 1⟩, ⟨19, ⟨some 54, .alloc (.box 53), none⟩, 1⟩, ⟨20, ⟨some 13, .pure (.mv 54), none⟩, 1⟩], none⟩]) (.join [0, 2, 7, 8, 9, 10, 12, 13, 21, 22, 23] [] (.reg [mM 55 7, mM 56 7, mU 57 (.nilCheck 56), mF 2 58 57, mL 59 58, mM 60 13, mN 61 (.bslice 1 1 [.p none] [(0, (1, 60))]), mY 62 (.append 1 8 59 61), mU 63 (.nilCheck 55), mF 2 64 63, mZ (.st 1 64 62)]) (.join [0, 2, 7, 8, 9, 10, 13, 21, 22, 23, 69, 70, 71] [] (.reg [mM 65 0, mM 66 12, mU 67 (.idxAddrSl 15 65 66), mF 12 68 67, mL 69 68, mU 70 (.lenSl 69), mK 71 0]) (.block 2 (.loop [8, 9, 10, 71] [0, 2, 7, 13, 21, 22, 23, 69, 70] (.seq (.reg [mB .lss 72 71 70]) (.seq (.cond 72 .skip (.exit 2)) (.join [0, 2, 7, 8, 9, 10, 13, 21, 22, 23, 69, 70, 71] [] (.block 3 (.join [0, 2, 7, 8, 9, 10, 13, 14, 15, 21, 22, 23, 69, 70, 71] [] (.reg [mM 73 71, mU 74 (.idxAddrSl 8 69 71), mR 75 (.ldN 8 74), mN 15 (.newz [.s [], .b false, .b false, 0, 0, .b false, 0, 0]), mM 14 73, mZ (.st 8 15 75)]) (.join [0, 2, 7, 8, 9, 10, 13, 14, 15, 21, 22, 23, 69, 70, 71] [] (.seq (.reg [mF 0 76 15, mL 77 76, mU 78 (.lenS 77), mM 16 78]) (.seq (.reg [mM 79 16, mB .eql 80 79 (.c 0), mM 81 80, (mM 82 16).g 81 false, (mB .gtr 83 82 (.c 16)).g 81 false, mU 84 (.pick 81 (.c (.b true)) 83)]) (.cond 84 (.exit 3) .skip))) (.join [0, 2, 7, 8, 9, 10, 13, 15, 21, 22, 23, 69, 70, 71] [] (.reg [mM 85 7, mM 86 7, mU 87 (.nilCheck 86), mF 1 88 87, mL 89 88, mM 90 13, mM 91 14, mU 92 (.build [.p none, 0] [(0, (1, 90)), (1, (1, 91))]), mN 93 (.bslice 2 1 [.p none, 0] [(0, (2, 92))]), mY 94 (.append 2 16 89 93), mU 95 (.nilCheck 85), mF 1 96 95, mZ (.st 1 96 94)]) (.draw 19 [⟨[], [⟨0, ⟨some 97, .pure (.mv 8), none⟩, 0⟩, ⟨1, ⟨some 98, .pure (.fieldAddr 0 15), none⟩, 0⟩, ⟨2, ⟨some 99, .read (.ld1 98), none⟩, 0⟩, ⟨3, ⟨some 100, .alloc (.bslice 1 1 [.s []] [(0, (1, 99))]), none⟩, 0⟩, ⟨5, ⟨some 102, .pure (.mv 9), none⟩, 2⟩, ⟨6, ⟨some 103, .pure (.fieldAddr 0 15), none⟩, 1⟩, ⟨7, ⟨some 104, .read (.ld1 103), none⟩, 1⟩, ⟨11, ⟨some 108, .pure (.mv 10), none⟩, 3⟩, ⟨12, ⟨some 109, .pure (.fieldAddr 1 15), none⟩, 3⟩, ⟨13, ⟨some 110, .read (.ld1 109), none⟩, 3⟩, ⟨14, ⟨some 111, .alloc (.bslice 1 1 [.b false] [(0, (1, 110))]), none⟩, 3⟩], some (mY 101 (.append 1 16 97 100))⟩, ⟨[⟨some 104, .read (.ld1 103), none⟩, ⟨some 110, .read (.ld1 109), none⟩], [], some (mQ 105 45 [104] c45)⟩, ⟨[⟨some 110, .read (.ld1 109), none⟩], [⟨9, ⟨some 106, .alloc (.bslice 1 1 [.s []] [(0, (1, 105))]), none⟩, 2⟩], some (mY 107 (.append 1 16 102 106))⟩, ⟨[⟨some 110, .read (.ld1 109), none⟩], [], some (mY 112 (.append 1 1 108 111))⟩, ⟨[], [⟨16, ⟨some 8, .pure (.mv 101), none⟩, 4⟩, ⟨17, ⟨some 9, .pure (.mv 107), none⟩, 4⟩, ⟨18, ⟨some 10, .pure (.mv 112), none⟩, 4⟩], none⟩]))))) (.reg [mB .add 113 71 (.c 1), mM 71 113])))))))))))) (.reg [mB .add 114 23 (.c 1), mM 23 114]))))))) (.seq (.reg [mM 116 9, mQ 117 46 [116, .c 4096] c46, mM 115 117, mU 118 (.extract 0 115), mU 119 (.extract 1 115), mM 17 118, mM 18 119]) (.seq (.reg [mM 120 7, mM 121 17, mM 122 8, mM 123 10, mQ 124 187 [121, 122, 123] c187, mU 125 (.nilCheck 120), mF 0 126 125, mZ (.st 1 126 124)]) (.seq (.reg [mM 127 7, mM 6 127]) .ret)))))))
def r111 : List ARes := [.t 6]
theorem k111 (c45 : T 45) (c46 : T 46) (c186 : T 186) (c187 : T 187) : compFn Tryz.prog 111 = some ⟨128, (s111 c45 c46 c186 c187).er, r111⟩ := by kernel_rfl
abbrev q111 (O : Ops Tryz.prog) (c45 : T 45) (c46 : T 46) (c186 : T 186) (c187 : T 187) := curF 3 (sfn O (s111 c45 c46 c186 c187) r111)
def g111 : { g // g = q111 } := by
  have h : q111 = q111 := rfl
  conv at h => rhs; reduce
  exact ⟨_, h.symm⟩
def C111 : T 111 := mkRun 3 (k111 C45 C46 C186 C187) (by decide) (g111.1 (theOps Tryz.prog) C45 C46 C186 C187) (by rw [g111.2])
/- 188: (*rampart/verdict.Side).told -/
def s188 (c145 : T 145) (a221 : U) : S := .join [2, 3, 4] [] (.reg [mN 2 (.box 0), mN 3 (.box 1), mK 4 (.sl 0 none 0 0)]) (.seq (.reg [mN 5 (.newz [.sl 0 none 0 0])]) (.join [2, 3, 4, 5, 6] [] (.reg [mN 6 (.newz [.b false]), mZ (.st 1 6 (.c (.b false)))]) (.join [2, 5, 6] [] (.seq (.reg [mL 8 2, mQ 9 145 [8] c145]) (.block 0 (.rangeF 9 188 0 [2, 3, 5, 6] [a221]))) (.join [5] [] (.seq (.reg [mL 43 6]) (.cond 43 (.draw 9 [⟨[], [⟨0, ⟨some 44, .read (.ld1 5), none⟩, 0⟩, ⟨1, ⟨some 45, .read (.ld1 2), none⟩, 0⟩, ⟨2, ⟨some 46, .pure (.nilCheck 45), none⟩, 0⟩, ⟨3, ⟨some 47, .pure (.fieldAddr 3 46), none⟩, 0⟩, ⟨4, ⟨some 48, .read (.ld1 47), none⟩, 0⟩, ⟨5, ⟨some 49, .pure (.build [0, 0, 0, 0] [(2, (1, 48)), (3, (1, .c 4))]), none⟩, 0⟩, ⟨6, ⟨some 50, .alloc (.bslice 4 1 [0, 0, 0, 0] [(0, (4, 49))]), none⟩, 0⟩], some (mY 51 (.append 4 32 44 50))⟩, ⟨[], [], some (mZ (.st 1 5 51))⟩, ⟨[], [], none⟩]) .skip)) (.seq (.reg [mL 52 5, mM 4 52]) .ret)))))
def r188 : List ARes := [.t 4]
theorem k188 (c145 : T 145) (a221 : U) : compFn Tryz.prog 188 = some ⟨53, (s188 c145 a221).er, r188⟩ := by kernel_rfl
abbrev q188 (O : Ops Tryz.prog) (c145 : T 145) (a221 : U) := curF 2 (sfn O (s188 c145 a221) r188)
def g188 : { g // g = q188 } := by
  have h : q188 = q188 := rfl
  conv at h => rhs; reduce
  exact ⟨_, h.symm⟩
def C188 : T 188 := mkRun 2 (k188 C145 A221) (by decide) (g188.1 (theOps Tryz.prog) C145 A221) (by rw [g188.2])
/- 114: rampart/verdict.Worse -/
def s114 : S := .seq (.reg [mK 4 (.b false)]) (.seq (.reg [mM 5 0, mM 6 1, mB .gtr 7 5 6, mM 4 7]) .ret)
def r114 : List ARes := [.t 4]
theorem k114 : compFn Tryz.prog 114 = some ⟨8, (s114).er, r114⟩ := by kernel_rfl
abbrev q114 (O : Ops Tryz.prog) := curF 2 (sfn O (s114) r114)
def g114 : { g // g = q114 } := by
  have h : q114 = q114 := rfl
  conv at h => rhs; reduce
  exact ⟨_, h.symm⟩
def C114 : T 114 := mkRun 2 (k114) (by decide) (g114.1 (theOps Tryz.prog)) (by rw [g114.2])
/- 191: rampart/verdict.worst -/
def s191 (c114 : T 114) : S := .seq (.reg [mK 2 0]) (.seq (.reg [mK 3 0]) (.seq (.seq (.reg [mM 6 0, mU 7 (.lenSl 6), mK 8 0]) (.block 0 (.loop [3, 8] [6, 7] (.seq (.reg [mB .lss 9 8 7]) (.seq (.cond 9 .skip (.exit 0)) (.join [3, 6, 7, 8] [] (.block 1 (.seq (.reg [mU 10 (.idxAddrSl 4 6 8), mR 11 (.ldN 4 10), mN 5 (.newz [0, 0, 0, 0]), mZ (.st 4 5 11)]) (.seq (.reg [mF 3 12 5, mL 13 12, mM 14 3, mQ 15 114 [13, 14] c114]) (.cond 15 (.reg [mF 3 16 5, mL 17 16, mM 3 17]) .skip)))) (.reg [mB .add 18 8 (.c 1), mM 8 18]))))))) (.seq (.reg [mM 19 3, mM 2 19]) .ret)))
def r191 : List ARes := [.t 2]
theorem k191 (c114 : T 114) : compFn Tryz.prog 191 = some ⟨20, (s191 c114).er, r191⟩ := by kernel_rfl
abbrev q191 (O : Ops Tryz.prog) (c114 : T 114) := curF 1 (sfn O (s191 c114) r191)
def g191 : { g // g = q191 } := by
  have h : q191 = q191 := rfl
  conv at h => rhs; reduce
  exact ⟨_, h.symm⟩
def C191 : T 191 := mkRun 1 (k191 C114) (by decide) (g191.1 (theOps Tryz.prog) C114) (by rw [g191.2])
/- 112: (*rampart/verdict.Side).Begin -/
def s112 (c188 : T 188) (c191 : T 191) : S := .seq (.reg [mK 2 (.sl 0 none 0 0), mK 3 0]) (.seq (.reg [mM 5 0, mQ 6 188 [5, .fn 189] c188, mM 4 6]) (.seq (.reg [mM 7 4, mM 8 4, mQ 9 191 [8] c191, mM 2 7, mM 3 9]) .ret))
def r112 : List ARes := [.t 2, .t 3]
theorem k112 (c188 : T 188) (c191 : T 191) : compFn Tryz.prog 112 = some ⟨10, (s112 c188 c191).er, r112⟩ := by kernel_rfl
abbrev q112 (O : Ops Tryz.prog) (c188 : T 188) (c191 : T 191) := curF 1 (sfn O (s112 c188 c191) r112)
def g112 : { g // g = q112 } := by
  have h : q112 = q112 := rfl
  conv at h => rhs; reduce
  exact ⟨_, h.symm⟩
def C112 : T 112 := mkRun 1 (k112 C188 C191) (by decide) (g112.1 (theOps Tryz.prog) C188 C191) (by rw [g112.2])
/- 113: (*rampart/engine.Engine).note -/
def s113 : S := .seq (.reg [mM 8 2, mU 9 (.lenSl 8), mK 10 0]) (.block 0 (.loop [10] [0, 1, 8, 9] (.seq (.reg [mB .lss 11 10 9]) (.seq (.cond 11 .skip (.exit 0)) (.seq (.block 1 (.join [0, 1, 7, 8, 9, 10] [] (.reg [mU 12 (.idxAddrSl 4 8 10), mR 13 (.ldN 4 12), mN 7 (.newz [0, 0, 0, 0]), mZ (.st 4 7 13)]) (.join [0, 1, 7, 8, 9, 10] [] (.reg [mM 14 1, mU 15 (.nilCheck 14), mF 40 16 15, mL 17 16, mF 1 18 7, mZ (.st 1 18 17)]) (.seq (.draw 13 [⟨[], [⟨0, ⟨some 19, .pure (.mv 1), none⟩, 1⟩, ⟨1, ⟨some 20, .pure (.mv 1), none⟩, 0⟩, ⟨2, ⟨some 21, .pure (.nilCheck 20), none⟩, 0⟩, ⟨3, ⟨some 22, .pure (.fieldAddr 43 21), none⟩, 0⟩, ⟨4, ⟨some 23, .pure (.fieldAddr 1 22), none⟩, 0⟩, ⟨5, ⟨some 24, .read (.ld1 23), none⟩, 0⟩, ⟨6, ⟨some 25, .read (.ldN 4 7), none⟩, 0⟩, ⟨7, ⟨some 26, .alloc (.bslice 4 1 [0, 0, 0, 0] [(0, (4, 25))]), none⟩, 0⟩], some (mY 27 (.append 4 32 24 26))⟩, ⟨[], [⟨9, ⟨some 28, .pure (.nilCheck 19), none⟩, 1⟩, ⟨10, ⟨some 29, .pure (.fieldAddr 43 28), none⟩, 1⟩, ⟨11, ⟨some 30, .pure (.fieldAddr 1 29), none⟩, 1⟩], some (mZ (.st 1 30 27))⟩, ⟨[], [], none⟩]) (.reg [mM 31 0, mU 32 (.nilCheck 31), mF 15 33 32, mF 9 34 33, mL 35 34, mB .add 36 35 (.c 1), mU 37 (.nilCheck 31), mF 15 38 37, mF 9 39 38, mZ (.st 1 39 36)]))))) (.reg [mB .add 40 10 (.c 1), mM 10 40]))))))
def r113 : List ARes := []
theorem k113 : compFn Tryz.prog 113 = some ⟨41, (s113).er, r113⟩ := by kernel_rfl
abbrev q113 (O : Ops Tryz.prog) := curF 3 (sfn O (s113) r113)
def g113 : { g // g = q113 } := by
  have h : q113 = q113 := rfl
  conv at h => rhs; reduce
  exact ⟨_, h.symm⟩
def C113 : T 113 := mkRun 3 (k113) (by decide) (g113.1 (theOps Tryz.prog)) (by rw [g113.2])
/- 323: (*rampart/auto.Auto).none -/
def s323 : S := .seq (.reg [mK 4 (.b false)]) (.seq (.reg [mM 5 1, mB .lss 6 5 (.c 0), mM 7 6, (mM 8 1).g 7 false, (mM 9 0).g 7 false, (mU 10 (.nilCheck 9)).g 7 false, (mF 0 11 10).g 7 false, (mL 12 11).g 7 false, (mU 13 (.lenSl 12)).g 7 false, (mB .geq 14 8 13).g 7 false, mU 15 (.pick 7 (.c (.b true)) 14), mM 4 15]) .ret)
def r323 : List ARes := [.t 4]
theorem k323 : compFn Tryz.prog 323 = some ⟨16, (s323).er, r323⟩ := by kernel_rfl
abbrev q323 (O : Ops Tryz.prog) := curF 2 (sfn O (s323) r323)
def g323 : { g // g = q323 } := by
  have h : q323 = q323 := rfl
  conv at h => rhs; reduce
  exact ⟨_, h.symm⟩
def C323 : T 323 := mkRun 2 (k323) (by decide) (g323.1 (theOps Tryz.prog)) (by rw [g323.2])
/- 262: (*rampart/auto.Auto).Next -/
def s262 (c323 : T 323) : S := .seq (.reg [mK 6 0]) (.seq (.seq (.reg [mM 7 0, mM 8 1, mQ 9 323 [7, 8] c323]) (.cond 9 (.seq (.reg [mK 6 0]) .ret) .skip)) (.seq (.reg [mM 10 0, mU 11 (.nilCheck 10), mF 0 12 11, mL 13 12, mM 14 1, mM 15 2, mU 16 (.idxAddrSl 256 13 14), mU 17 (.idxAddrArr 256 1 16 15), mL 18 17, mU 19 (.conv .i64 18), mM 6 19]) .ret))
def r262 : List ARes := [.t 6]
theorem k262 (c323 : T 323) : compFn Tryz.prog 262 = some ⟨20, (s262 c323).er, r262⟩ := by kernel_rfl
abbrev q262 (O : Ops Tryz.prog) (c323 : T 323) := curF 3 (sfn O (s262 c323) r262)
def g262 : { g // g = q262 } := by
  have h : q262 = q262 := rfl
  conv at h => rhs; reduce
  exact ⟨_, h.symm⟩
def C262 : T 262 := mkRun 3 (k262 C323) (by decide) (g262.1 (theOps Tryz.prog) C323) (by rw [g262.2])
/- 263: rampart/scan.fold -/
def s263 : S := .seq (.reg [mK 2 (.i .u8 0)]) (.seq (.seq (.reg [mM 3 0, mB .geq 4 3 (.c (.i .u8 65)), mM 5 4, (mM 6 0).g 5 true, (mB .leq 7 6 (.c (.i .u8 90))).g 5 true, mU 8 (.pick 5 7 (.c (.b false)))]) (.cond 8 (.seq (.reg [mM 9 0, mB .sub 10 9 (.c (.i .u8 65)), mB .add 11 10 (.c (.i .u8 97)), mM 2 11]) .ret) .skip)) (.seq (.reg [mM 12 0, mM 2 12]) .ret))
def r263 : List ARes := [.t 2]
theorem k263 : compFn Tryz.prog 263 = some ⟨13, (s263).er, r263⟩ := by kernel_rfl
abbrev q263 (O : Ops Tryz.prog) := curF 1 (sfn O (s263) r263)
def g263 : { g // g = q263 } := by
  have h : q263 = q263 := rfl
  conv at h => rhs; reduce
  exact ⟨_, h.symm⟩
def C263 : T 263 := mkRun 1 (k263) (by decide) (g263.1 (theOps Tryz.prog)) (by rw [g263.2])
/- 264: (*rampart/auto.Auto).Out -/
def s264 (c158 : T 158) (c323 : T 323) : S := .seq (.reg [mK 4 (.sl 0 none 0 0)]) (.seq (.seq (.reg [mM 5 0, mM 6 1, mQ 7 323 [5, 6] c323]) (.cond 7 (.seq (.reg [mK 4 (.sl 0 none 0 0)]) .ret) .skip)) (.seq (.reg [mM 8 0, mU 9 (.nilCheck 8), mF 2 10 9, mL 11 10, mM 12 1, mU 13 (.idxAddrSl 1 11 12), mL 14 13, mQ 15 158 [14] c158, mM 4 15]) .ret))
def r264 : List ARes := [.t 4]
theorem k264 (c158 : T 158) (c323 : T 323) : compFn Tryz.prog 264 = some ⟨16, (s264 c158 c323).er, r264⟩ := by kernel_rfl
abbrev q264 (O : Ops Tryz.prog) (c158 : T 158) (c323 : T 323) := curF 2 (sfn O (s264 c158 c323) r264)
def g264 : { g // g = q264 } := by
  have h : q264 = q264 := rfl
  conv at h => rhs; reduce
  exact ⟨_, h.symm⟩
def C264 : T 264 := mkRun 2 (k264 C158 C323) (by decide) (g264.1 (theOps Tryz.prog) C158 C323) (by rw [g264.2])
/- 265: (*rampart/scan.Scanner).stands -/
def s265 : S := .seq (.reg [mK 4 (.b false)]) (.seq (.seq (.reg [mM 6 1, mU 7 (.lenS 6), mK 8 0]) (.block 0 (.loop [8] [0, 1, 7] (.seq (.reg [mB .lss 9 8 7]) (.seq (.cond 9 .skip (.exit 0)) (.seq (.block 1 (.seq (.reg [mM 10 8, mM 5 10]) (.seq (.draw 0 [⟨[], [⟨0, ⟨some 11, .pure (.mv 0), none⟩, 0⟩, ⟨1, ⟨some 12, .pure (.mv 0), none⟩, 0⟩, ⟨2, ⟨some 13, .pure (.nilCheck 12), none⟩, 0⟩, ⟨3, ⟨some 14, .pure (.fieldAddr 4 13), none⟩, 0⟩, ⟨4, ⟨some 15, .read (.ld1 14), none⟩, 0⟩, ⟨5, ⟨some 16, .pure (.mv 1), none⟩, 0⟩, ⟨6, ⟨some 17, .pure (.lenS 16), none⟩, 0⟩, ⟨7, ⟨some 18, .pure (.bin .sub 15 17), none⟩, 0⟩, ⟨8, ⟨some 19, .pure (.mv 5), none⟩, 0⟩, ⟨9, ⟨some 20, .pure (.bin .add 18 19), none⟩, 0⟩, ⟨10, ⟨some 21, .pure (.bin .rem 20 (.c 16)), none⟩, 0⟩, ⟨11, ⟨some 22, .pure (.nilCheck 11), none⟩, 0⟩, ⟨12, ⟨some 23, .pure (.fieldAddr 5 22), none⟩, 0⟩, ⟨13, ⟨some 24, .pure (.idxAddrArr 16 1 23 21), none⟩, 0⟩, ⟨14, ⟨some 25, .read (.ld1 24), none⟩, 0⟩, ⟨15, ⟨some 26, .pure (.mv 1), none⟩, 0⟩, ⟨16, ⟨some 27, .pure (.mv 5), none⟩, 0⟩, ⟨17, ⟨some 28, .pure (.idxStr 26 27), none⟩, 0⟩, ⟨18, ⟨some 29, .pure (.bin .neq 25 28), none⟩, 0⟩], none⟩]) (.cond 29 (.seq (.reg [mK 4 (.b false)]) .ret) .skip)))) (.reg [mB .add 30 8 (.c 1), mM 8 30]))))))) (.seq (.reg [mK 4 (.b true)]) .ret))
def r265 : List ARes := [.t 4]
theorem k265 : compFn Tryz.prog 265 = some ⟨31, (s265).er, r265⟩ := by kernel_rfl
abbrev q265 (O : Ops Tryz.prog) := curF 2 (sfn O (s265) r265)
def g265 : { g // g = q265 } := by
  have h : q265 = q265 := rfl
  conv at h => rhs; reduce
  exact ⟨_, h.symm⟩
def C265 : T 265 := mkRun 2 (k265) (by decide) (g265.1 (theOps Tryz.prog)) (by rw [g265.2])
/- 192: (*rampart/scan.Scanner).Step -/
def s192 (c262 : T 262) (c263 : T 263) (c264 : T 264) (c265 : T 265) : S := .seq (.reg [mK 4 (.sl 0 none 0 0)]) (.join [0, 1] [] (.draw 0 [⟨[], [⟨0, ⟨some 8, .pure (.mv 0), none⟩, 0⟩, ⟨1, ⟨some 9, .pure (.mv 0), none⟩, 0⟩, ⟨2, ⟨some 10, .pure (.nilCheck 9), none⟩, 0⟩, ⟨3, ⟨some 11, .pure (.fieldAddr 4 10), none⟩, 0⟩, ⟨4, ⟨some 12, .read (.ld1 11), none⟩, 0⟩, ⟨5, ⟨some 13, .pure (.bin .rem 12 (.c 16)), none⟩, 0⟩, ⟨6, ⟨some 14, .pure (.mv 1), none⟩, 0⟩, ⟨7, ⟨some 15, .pure (.nilCheck 8), none⟩, 0⟩, ⟨8, ⟨some 16, .pure (.fieldAddr 5 15), none⟩, 0⟩, ⟨9, ⟨some 17, .pure (.idxAddrArr 16 1 16 13), none⟩, 0⟩], some (mZ (.st 1 17 14))⟩, ⟨[], [], none⟩]) (.join [0, 1] [] (.reg [mM 18 0, mU 19 (.nilCheck 18), mF 4 20 19, mL 21 20, mB .add 22 21 (.c 1), mU 23 (.nilCheck 18), mF 4 24 23, mZ (.st 1 24 22)]) (.join [0, 1] [] (.seq (.reg [mM 25 0, mU 26 (.nilCheck 25), mF 0 27 26, mL 28 27, mR 29 (.peq false 28 (.c (.p none)))]) (.cond 29 (.seq (.reg [mK 4 (.sl 0 none 0 0)]) .ret) .skip)) (.join [0] [] (.draw 0 [⟨[], [⟨0, ⟨some 30, .pure (.mv 0), none⟩, 2⟩, ⟨1, ⟨some 31, .pure (.mv 0), none⟩, 1⟩, ⟨2, ⟨some 32, .pure (.nilCheck 31), none⟩, 1⟩, ⟨3, ⟨some 33, .pure (.fieldAddr 0 32), none⟩, 1⟩, ⟨4, ⟨some 34, .read (.ld1 33), none⟩, 1⟩, ⟨5, ⟨some 35, .pure (.mv 0), none⟩, 1⟩, ⟨6, ⟨some 36, .pure (.nilCheck 35), none⟩, 1⟩, ⟨7, ⟨some 37, .pure (.fieldAddr 3 36), none⟩, 1⟩, ⟨8, ⟨some 38, .read (.ld1 37), none⟩, 1⟩, ⟨9, ⟨some 39, .pure (.mv 1), none⟩, 0⟩], some (mQ 40 263 [39] c263)⟩, ⟨[⟨some 34, .read (.ld1 33), none⟩, ⟨some 38, .read (.ld1 37), none⟩], [], some (mQ 41 262 [34, 38, 40] c262)⟩, ⟨[], [⟨12, ⟨some 42, .pure (.nilCheck 30), none⟩, 2⟩, ⟨13, ⟨some 43, .pure (.fieldAddr 3 42), none⟩, 2⟩], some (mZ (.st 1 43 41))⟩, ⟨[], [], none⟩]) (.seq (.reg [mK 5 (.sl 0 none 0 0)]) (.seq (.join [0, 5, 52, 53, 54] [] (.draw 0 [⟨[], [⟨0, ⟨some 44, .pure (.mv 0), none⟩, 0⟩, ⟨1, ⟨some 45, .pure (.nilCheck 44), none⟩, 0⟩, ⟨2, ⟨some 46, .pure (.fieldAddr 0 45), none⟩, 0⟩, ⟨3, ⟨some 47, .read (.ld1 46), none⟩, 0⟩, ⟨4, ⟨some 48, .pure (.mv 0), none⟩, 0⟩, ⟨5, ⟨some 49, .pure (.nilCheck 48), none⟩, 0⟩, ⟨6, ⟨some 50, .pure (.fieldAddr 3 49), none⟩, 0⟩, ⟨7, ⟨some 51, .read (.ld1 50), none⟩, 0⟩, ⟨10, ⟨some 54, .pure (.mv (.c 0)), none⟩, 1⟩], some (mQ 52 264 [47, 51] c264)⟩, ⟨[], [⟨9, ⟨some 53, .pure (.lenSl 52), none⟩, 1⟩], none⟩]) (.block 0 (.loop [5, 54] [0, 52, 53] (.seq (.reg [mB .lss 55 54 53]) (.seq (.cond 55 .skip (.exit 0)) (.join [0, 5, 52, 53, 54] [] (.block 1 (.join [0, 5, 7, 52, 53, 54] [] (.reg [mU 56 (.idxAddrSl 1 52 54), mL 57 56, mM 7 57]) (.seq (.reg [mM 58 7, mM 59 0, mU 60 (.nilCheck 59), mF 1 61 60, mL 62 61, mU 63 (.lenSl 62), mB .lss 64 58 63, mM 65 64, (mM 66 7).g 65 true, (mM 67 0).g 65 true, (mU 68 (.nilCheck 67)).g 65 true, (mF 2 69 68).g 65 true, (mL 70 69).g 65 true, (mU 71 (.lenSl 70)).g 65 true, (mB .lss 72 66 71).g 65 true, (mM 73 72).g 65 true, (mM 74 0).g 73 true, (mU 75 (.nilCheck 74)).g 73 true, (mF 2 76 75).g 73 true, (mL 77 76).g 73 true, (mM 78 7).g 73 true, (mU 79 (.idxAddrSl 1 77 78)).g 73 true, (mL 80 79).g 73 true, (mU 81 (.pick 73 80 (.c (.b false)))).g 65 true, (mM 82 81).g 65 true, (mM 83 0).g 82 false, (mM 84 0).g 82 false, (mU 85 (.nilCheck 84)).g 82 false, (mF 1 86 85).g 82 false, (mL 87 86).g 82 false, (mM 88 7).g 82 false, (mU 89 (.idxAddrSl 1 87 88)).g 82 false, (mL 90 89).g 82 false, (mQ 91 265 [83, 90] c265).g 82 false, (mU 92 (.pick 82 (.c (.b true)) 91)).g 65 true, mU 93 (.pick 65 92 (.c (.b false)))]) (.cond 93 (.reg [mM 94 5, mM 95 7, mN 96 (.bslice 1 1 [0] [(0, (1, 95))]), mY 97 (.append 1 8 94 96), mM 5 97]) .skip)))) (.reg [mB .add 98 54 (.c 1), mM 54 98]))))))) (.seq (.reg [mM 99 5, mM 4 99]) .ret)))))))
def r192 : List ARes := [.t 4]
theorem k192 (c262 : T 262) (c263 : T 263) (c264 : T 264) (c265 : T 265) : compFn Tryz.prog 192 = some ⟨100, (s192 c262 c263 c264 c265).er, r192⟩ := by kernel_rfl
abbrev q192 (O : Ops Tryz.prog) (c262 : T 262) (c263 : T 263) (c264 : T 264) (c265 : T 265) := curF 2 (sfn O (s192 c262 c263 c264 c265) r192)
def g192 : { g // g = q192 } := by
  have h : q192 = q192 := rfl
  conv at h => rhs; reduce
  exact ⟨_, h.symm⟩
def C192 : T 192 := mkRun 2 (k192 C262 C263 C264 C265) (by decide) (g192.1 (theOps Tryz.prog) C262 C263 C264 C265) (by rw [g192.2])
/- 115: (*rampart/verdict.Side).Step -/
def s115 (c188 : T 188) (c191 : T 191) (c192 : T 192) : S := .seq (.reg [mK 4 (.sl 0 none 0 0), mK 5 0]) (.join [0, 1] [] (.reg [mM 14 0, mU 15 (.nilCheck 14), mF 3 16 15, mL 17 16, mB .add 18 17 (.c 1), mU 19 (.nilCheck 14), mF 3 20 19, mZ (.st 1 20 18)]) (.join [0, 6] [] (.reg [mM 21 0, mU 22 (.nilCheck 21), mF 0 23 22, mL 24 23, mM 25 1, mQ 26 192 [24, 25] c192, mM 6 26]) (.join [0, 6] [] (.seq (.reg [mM 27 6, mU 28 (.lenSl 27), mK 29 0]) (.block 0 (.loop [29] [0, 6, 27, 28] (.seq (.reg [mB .lss 30 29 28]) (.seq (.cond 30 .skip (.exit 0)) (.seq (.block 1 (.join [0, 6, 8, 27, 28, 29] [] (.reg [mU 31 (.idxAddrSl 1 27 29), mL 32 31, mM 8 32]) (.join [0, 6, 9, 27, 28, 29] [] (.reg [mM 33 0, mU 34 (.nilCheck 33), mF 1 35 34, mL 36 35, mM 37 8, mU 38 (.idxAddrSl 2 36 37), mR 39 (.ldN 2 38), mN 9 (.newz [.p none, 0]), mZ (.st 2 9 39)]) (.draw 0 [⟨[], [⟨0, ⟨some 40, .pure (.fieldAddr 0 9), none⟩, 0⟩, ⟨1, ⟨some 41, .read (.ld1 40), none⟩, 0⟩, ⟨2, ⟨some 42, .pure (.nilCheck 41), none⟩, 0⟩, ⟨3, ⟨some 43, .pure (.fieldAddr 16 42), none⟩, 0⟩, ⟨4, ⟨some 44, .read (.ld1 43), none⟩, 0⟩, ⟨5, ⟨some 45, .pure (.fieldAddr 1 9), none⟩, 0⟩, ⟨6, ⟨some 46, .read (.ld1 45), none⟩, 0⟩, ⟨7, ⟨some 47, .pure (.idxAddrSl 1 44 46), none⟩, 0⟩], some (mZ (.st 1 47 (.c (.b true))))⟩, ⟨[], [], none⟩])))) (.reg [mB .add 48 29 (.c 1), mM 29 48]))))))) (.seq (.reg [mM 49 0, mQ 50 188 [49, .fn 193] c188, mM 10 50]) (.seq (.seq (.reg [mM 51 6, mU 52 (.lenSl 51), mK 53 0]) (.block 2 (.loop [53] [0, 10, 51, 52] (.seq (.reg [mB .lss 54 53 52]) (.seq (.cond 54 .skip (.exit 2)) (.seq (.block 3 (.join [0, 10, 12, 51, 52, 53] [] (.reg [mU 55 (.idxAddrSl 1 51 53), mL 56 55, mM 12 56]) (.join [0, 10, 13, 51, 52, 53] [] (.reg [mM 57 0, mU 58 (.nilCheck 57), mF 1 59 58, mL 60 59, mM 61 12, mU 62 (.idxAddrSl 2 60 61), mR 63 (.ldN 2 62), mN 13 (.newz [.p none, 0]), mZ (.st 2 13 63)]) (.draw 0 [⟨[], [⟨0, ⟨some 64, .pure (.fieldAddr 0 13), none⟩, 0⟩, ⟨1, ⟨some 65, .read (.ld1 64), none⟩, 0⟩, ⟨2, ⟨some 66, .pure (.nilCheck 65), none⟩, 0⟩, ⟨3, ⟨some 67, .pure (.fieldAddr 16 66), none⟩, 0⟩, ⟨4, ⟨some 68, .read (.ld1 67), none⟩, 0⟩, ⟨5, ⟨some 69, .pure (.fieldAddr 1 13), none⟩, 0⟩, ⟨6, ⟨some 70, .read (.ld1 69), none⟩, 0⟩, ⟨7, ⟨some 71, .pure (.idxAddrSl 1 68 70), none⟩, 0⟩], some (mZ (.st 1 71 (.c (.b false))))⟩, ⟨[], [], none⟩])))) (.reg [mB .add 72 53 (.c 1), mM 53 72]))))))) (.seq (.reg [mM 73 10, mM 74 10, mQ 75 191 [74] c191, mM 4 73, mM 5 75]) .ret))))))
def r115 : List ARes := [.t 4, .t 5]
theorem k115 (c188 : T 188) (c191 : T 191) (c192 : T 192) : compFn Tryz.prog 115 = some ⟨76, (s115 c188 c191 c192).er, r115⟩ := by kernel_rfl
abbrev q115 (O : Ops Tryz.prog) (c188 : T 188) (c191 : T 191) (c192 : T 192) := curF 2 (sfn O (s115 c188 c191 c192) r115)
def g115 : { g // g = q115 } := by
  have h : q115 = q115 := rfl
  conv at h => rhs; reduce
  exact ⟨_, h.symm⟩
def C115 : T 115 := mkRun 2 (k115 C188 C191 C192) (by decide) (g115.1 (theOps Tryz.prog) C188 C191 C192) (by rw [g115.2])
/- 270: rampart/dgram.in[int] -/
def s270 : S := .seq (.reg [mK 4 (.b false)]) (.seq (.seq (.reg [mM 7 1, mU 8 (.lenSl 7), mK 9 0]) (.block 0 (.loop [9] [0, 7, 8] (.seq (.reg [mB .lss 10 9 8]) (.seq (.cond 10 .skip (.exit 0)) (.seq (.block 1 (.seq (.reg [mU 11 (.idxAddrSl 1 7 9), mL 12 11, mM 6 12]) (.seq (.reg [mM 13 6, mB .lss 14 13 (.c 0), mM 15 14, (mM 16 6).g 15 false, (mM 17 0).g 15 false, (mB .gtr 18 16 17).g 15 false, mU 19 (.pick 15 (.c (.b true)) 18)]) (.cond 19 (.seq (.reg [mK 4 (.b false)]) .ret) .skip)))) (.reg [mB .add 20 9 (.c 1), mM 9 20]))))))) (.seq (.reg [mK 4 (.b true)]) .ret))
def r270 : List ARes := [.t 4]
theorem k270 : compFn Tryz.prog 270 = some ⟨21, (s270).er, r270⟩ := by kernel_rfl
abbrev q270 (O : Ops Tryz.prog) := curF 2 (sfn O (s270) r270)
def g270 : { g // g = q270 } := by
  have h : q270 = q270 := rfl
  conv at h => rhs; reduce
  exact ⟨_, h.symm⟩
def C270 : T 270 := mkRun 2 (k270) (by decide) (g270.1 (theOps Tryz.prog)) (by rw [g270.2])
/- 195: rampart/dgram.PutICMP -/
def s195 (c172 : T 172) (c254 : T 254) (c270 : T 270) : S := .seq (.reg [mN 2 (.box 0), mK 4 (.s []), mK 5 0]) (.join [1, 2] [] (.block 0 (.seq (.reg [mF 2 9 2, mL 10 9, mF 3 11 2, mL 12 11, mN 13 (.bslice 1 2 [0, 0] [(0, (1, 10)), (1, (1, 12))]), mQ 14 270 [.c 255, 13] c270, mU 15 (.un .not 14), mM 8 15]) (.cond 8 (.seq (.reg [mK 4 (.s []), mK 5 1]) .ret) (.seq (.reg [mM 17 1, mU 18 (.lenS 17), mB .add 19 (.c 8) 18, mB .gtr 20 19 (.c 2000), mM 16 20]) (.cond 16 (.seq (.reg [mK 4 (.s []), mK 5 5]) .ret) .skip))))) (.seq (.draw 0 [⟨[], [⟨0, ⟨some 21, .pure (.fieldAddr 2 2), none⟩, 0⟩, ⟨1, ⟨some 22, .read (.ld1 21), none⟩, 0⟩, ⟨3, ⟨some 24, .pure (.fieldAddr 3 2), none⟩, 1⟩, ⟨4, ⟨some 25, .read (.ld1 24), none⟩, 1⟩, ⟨7, ⟨some 28, .pure (.fieldAddr 4 2), none⟩, 2⟩, ⟨8, ⟨some 29, .read (.ld1 28), none⟩, 2⟩, ⟨9, ⟨some 30, .pure (.conv .i64 29), none⟩, 2⟩, ⟨11, ⟨some 32, .pure (.mv 1), none⟩, 3⟩], some (mQ 23 254 [22, .c 1] c254)⟩, ⟨[⟨some 25, .read (.ld1 24), none⟩, ⟨some 29, .read (.ld1 28), none⟩], [], some (mQ 26 254 [25, .c 1] c254)⟩, ⟨[⟨some 29, .read (.ld1 28), none⟩], [⟨6, ⟨some 27, .pure (.bin .add 23 26), none⟩, 3⟩], some (mQ 31 254 [30, .c 4] c254)⟩, ⟨[], [⟨12, ⟨some 33, .pure (.bin .add 31 32), none⟩, 3⟩, ⟨13, ⟨some 6, .pure (.mv 27), none⟩, 3⟩, ⟨14, ⟨some 7, .pure (.mv 33), none⟩, 3⟩], none⟩]) (.seq (.reg [mM 34 6, mM 35 6, mM 36 7, mN 37 (.bslice 1 3 [.s [], .s [], .s []] [(0, (1, 35)), (1, (1, .c (.s [0, 0]))), (2, (1, 36))]), mQ 38 172 [37] c172, mQ 39 254 [38, .c 2] c254, mB .add 40 34 39, mM 41 7, mB .add 42 40 41, mM 4 42, mK 5 0]) .ret)))
def r195 : List ARes := [.t 4, .t 5]
theorem k195 (c172 : T 172) (c254 : T 254) (c270 : T 270) : compFn Tryz.prog 195 = some ⟨43, (s195 c172 c254 c270).er, r195⟩ := by kernel_rfl
abbrev q195 (O : Ops Tryz.prog) (c172 : T 172) (c254 : T 254) (c270 : T 270) := curF 2 (sfn O (s195 c172 c254 c270) r195)
def g195 : { g // g = q195 } := by
  have h : q195 = q195 := rfl
  conv at h => rhs; reduce
  exact ⟨_, h.symm⟩
def C195 : T 195 := mkRun 2 (k195 C172 C254 C270) (by decide) (g195.1 (theOps Tryz.prog) C172 C254 C270) (by rw [g195.2])
/- 196: (rampart/craft.both).back -/
def s196 : S := .join [1, 2] [] (.reg [mN 1 (.box 0), mN 2 (.newz [.i .u8 0, .i .u8 0, .i .u8 0, .i .u8 0, .i .u8 0, .i .u8 0, .i .u8 0, .i .u8 0, .i .u8 0, .i .u8 0, .i .u8 0, .i .u8 0, 0, 0, 0, .b false, .b false, 0, 0, 0, .i .u32 0, .i .u32 0, .s []])]) (.join [1, 2] [] (.reg [mF 0 3 1, mF 6 4 3, mR 5 (.ldN 6 4), mF 0 6 1, mF 0 7 6, mR 8 (.ldN 6 7), mF 0 9 1, mF 0 10 9, mZ (.st 6 10 5), mF 0 11 1, mF 6 12 11, mZ (.st 6 12 8)]) (.join [1, 2] [] (.reg [mF 13 13 1, mF 8 14 13, mL 15 14, mF 13 16 1, mF 7 17 16, mL 18 17, mF 13 19 1, mF 7 20 19, mZ (.st 1 20 15), mF 13 21 1, mF 8 22 21, mZ (.st 1 22 18)]) (.seq (.reg [mF 13 23 1, mF 2 24 23, mZ (.st 1 24 (.c (.b false))), mF 13 25 1, mF 3 26 25, mZ (.st 1 26 (.c (.b false))), mF 13 27 1, mF 4 28 27, mZ (.st 1 28 (.c 0)), mF 13 29 1, mF 1 30 29, mZ (.st 1 30 (.c 0)), mF 13 31 1, mF 5 32 31, mZ (.st 1 32 (.c 64)), mF 13 33 1, mF 9 34 33, mZ (.st 1 34 (.c (.s [])))]) (.seq (.reg [mR 35 (.ldN 23 1), mZ (.st 23 2 35)]) .ret))))
def r196 : List ARes := [.c true 23 2]
theorem k196 : compFn Tryz.prog 196 = some ⟨36, (s196).er, r196⟩ := by kernel_rfl
abbrev q196 (O : Ops Tryz.prog) := curF 1 (sfn O (s196) r196)
def g196 : { g // g = q196 } := by
  have h : q196 = q196 := rfl
  conv at h => rhs; reduce
  exact ⟨_, h.symm⟩
def C196 : T 196 := mkRun 1 (k196) (by decide) (g196.1 (theOps Tryz.prog)) (by rw [g196.2])
def A196 : U := ⟨196, C196⟩
/- 117: rampart/craft.Unreachable -/
def s117 (c106 : T 106) (c176 : T 176) (c195 : T 195) (c196 : T 196) : S := .join [2, 3, 4] [] (.reg [mN 3 (.box 0), mN 4 (.box 1), mK 6 (.s [])]) (.join [3, 4, 7, 8] [] (.reg [mR 12 (.ldN 10 4), mM 13 2, mQ 14 176 [12, 13] c176, mM 11 14, mU 15 (.extract 0 11), mU 16 (.extract 1 11), mM 7 15, mM 8 16]) (.join [3, 4, 7] [] (.seq (.reg [mM 17 8, mB .neq 18 17 (.c 0)]) (.cond 18 (.reg [mK 7 (.s [])]) .skip)) (.join [3, 4, 8, 9] [] (.reg [mU 20 (.build [0, 0, 0, 0, .i .u32 0] [(2, (1, .c 3)), (3, (1, .c 3))]), mM 21 7, mM 22 7, mU 23 (.lenS 22), mF 9 24 4, mL 25 24, mU 26 (.lenS 25), mB .add 27 (.c 20) 26, mB .add 28 27 (.c 8), mU 29 (.mxmn false [23, 28]), mU 30 (.slStr 21 none (some 29)), mQ 31 195 [20, 30] c195, mM 19 31, mU 32 (.extract 0 19), mU 33 (.extract 1 19), mM 9 32, mM 8 33]) (.seq (.seq (.reg [mM 34 8, mB .neq 35 34 (.c 0)]) (.cond 35 (.seq (.reg [mK 6 (.s [])]) .ret) .skip)) (.seq (.reg [mR 36 (.ldN 13 3), mR 37 (.ldN 10 4), mU 38 (.build [.i .u8 0, .i .u8 0, .i .u8 0, .i .u8 0, .i .u8 0, .i .u8 0, .i .u8 0, .i .u8 0, .i .u8 0, .i .u8 0, .i .u8 0, .i .u8 0, 0, 0, 0, .b false, .b false, 0, 0, 0, .i .u32 0, .i .u32 0, .s []] [(0, (13, 36)), (13, (10, 37))]), mQ 39 196 [38] c196, mN 10 (.newz [.i .u8 0, .i .u8 0, .i .u8 0, .i .u8 0, .i .u8 0, .i .u8 0, .i .u8 0, .i .u8 0, .i .u8 0, .i .u8 0, .i .u8 0, .i .u8 0, 0, 0, 0, .b false, .b false, 0, 0, 0, .i .u32 0, .i .u32 0, .s []]), mZ (.st 23 10 39)]) (.seq (.reg [mF 13 40 10, mF 6 41 40, mZ (.st 1 41 (.c 1))]) (.seq (.reg [mF 0 42 10, mR 43 (.ldN 13 42), mF 13 44 10, mR 45 (.ldN 10 44), mM 46 9, mQ 47 106 [43, 45, 46] c106, mM 6 47]) .ret)))))))
def r117 : List ARes := [.t 6]
theorem k117 (c106 : T 106) (c176 : T 176) (c195 : T 195) (c196 : T 196) : compFn Tryz.prog 117 = some ⟨48, (s117 c106 c176 c195 c196).er, r117⟩ := by kernel_rfl
abbrev q117 (O : Ops Tryz.prog) (c106 : T 106) (c176 : T 176) (c195 : T 195) (c196 : T 196) := curF 3 (sfn O (s117 c106 c176 c195 c196) r117)
def g117 : { g // g = q117 } := by
  have h : q117 = q117 := rfl
  conv at h => rhs; reduce
  exact ⟨_, h.symm⟩
def C117 : T 117 := mkRun 3 (k117 C106 C176 C195 C196) (by decide) (g117.1 (theOps Tryz.prog) C106 C176 C195 C196) (by rw [g117.2])
/- 198: slices.Delete[[]rampart/blocks.block,rampart/blocks.block] -/
def s198 : S := .seq (.reg [mK 6 (.sl 0 none 0 0)]) (.join [0, 1, 2] [] (.reg [mM 8 0, mM 9 1, mM 10 2, mM 11 0, mU 12 (.lenSl 11), mU 13 (.slSl 6 8 (some 9) (some 10) (some 12))]) (.seq (.seq (.reg [mM 14 1, mM 15 2, mB .eql 16 14 15]) (.cond 16 (.seq (.reg [mM 17 0, mM 6 17]) .ret) .skip)) (.seq (.reg [mM 18 0, mU 19 (.lenSl 18), mM 7 19]) (.seq (.draw 0 [⟨[], [⟨0, ⟨some 20, .pure (.mv 0), none⟩, 0⟩, ⟨1, ⟨some 21, .pure (.mv 1), none⟩, 0⟩, ⟨2, ⟨some 22, .pure (.slSl 6 20 none (some 21) none), none⟩, 0⟩, ⟨3, ⟨some 23, .pure (.mv 0), none⟩, 0⟩, ⟨4, ⟨some 24, .pure (.mv 2), none⟩, 0⟩, ⟨5, ⟨some 25, .pure (.slSl 6 23 (some 24) none none), none⟩, 0⟩], some (mY 26 (.append 6 40 22 25))⟩, ⟨[], [⟨7, ⟨some 0, .pure (.mv 26), none⟩, 1⟩], none⟩]) (.seq (.reg [mM 27 0, mM 28 0, mU 29 (.lenSl 28), mM 30 7, mU 31 (.slSl 6 27 (some 29) (some 30) none), mZ (.clearSl 6 [0, .i .u32 0, .i .u32 0, 0, 0, 0] 31)]) (.seq (.reg [mM 32 0, mM 6 32]) .ret))))))
def r198 : List ARes := [.t 6]
theorem k198 : compFn Tryz.prog 198 = some ⟨33, (s198).er, r198⟩ := by kernel_rfl
abbrev q198 (O : Ops Tryz.prog) := curF 3 (sfn O (s198) r198)
def g198 : { g // g = q198 } := by
  have h : q198 = q198 := rfl
  conv at h => rhs; reduce
  exact ⟨_, h.symm⟩
def C198 : T 198 := mkRun 3 (k198) (by decide) (g198.1 (theOps Tryz.prog)) (by rw [g198.2])
/- 118: (*rampart/blocks.Blocks).Add -/
def s118 (c179 : T 179) (c197 : T 197) (c198 : T 198) : S := .seq (.reg [mN 3 (.box 1)]) (.join [0, 3] [] (.join [0, 3, 4] [] (.draw 0 [⟨[], [⟨0, ⟨some 6, .pure (.mv 0), none⟩, 1⟩, ⟨1, ⟨some 7, .pure (.nilCheck 6), none⟩, 1⟩, ⟨2, ⟨some 8, .pure (.fieldAddr 2 7), none⟩, 1⟩, ⟨3, ⟨some 9, .read (.ld1 8), none⟩, 1⟩, ⟨4, ⟨some 10, .read (.ldN 5 3), none⟩, 0⟩], some (mQ 11 179 [10] c179)⟩, ⟨[⟨some 9, .read (.ld1 8), none⟩], [], some (mQ 12 197 [9, 11] c197)⟩, ⟨[], [⟨7, ⟨some 4, .pure (.mv 12), none⟩, 2⟩], none⟩]) (.seq (.reg [mM 13 4, mB .geq 14 13 (.c 0)]) (.cond 14 (.seq (.reg [mM 15 0, mU 16 (.nilCheck 15), mF 2 17 16, mL 18 17, mM 19 4, mU 20 (.idxAddrSl 6 18 19), mF 0 21 20, mR 22 (.ldN 5 21), mZ (.st 5 3 22)]) (.reg [mM 23 0, mM 24 0, mU 25 (.nilCheck 24), mF 2 26 25, mL 27 26, mM 28 4, mM 29 4, mB .add 30 29 (.c 1), mQ 31 198 [27, 28, 30] c198, mU 32 (.nilCheck 23), mF 2 33 32, mZ (.st 1 33 31)])) .skip))) (.join [0] [] (.draw 16 [⟨[], [⟨0, ⟨some 34, .pure (.mv 0), none⟩, 1⟩, ⟨1, ⟨some 35, .pure (.mv 0), none⟩, 0⟩, ⟨2, ⟨some 36, .pure (.nilCheck 35), none⟩, 0⟩, ⟨3, ⟨some 37, .pure (.fieldAddr 2 36), none⟩, 0⟩, ⟨4, ⟨some 38, .read (.ld1 37), none⟩, 0⟩, ⟨5, ⟨some 39, .read (.ldN 5 3), none⟩, 0⟩, ⟨6, ⟨some 40, .pure (.mv 0), none⟩, 0⟩, ⟨7, ⟨some 41, .pure (.nilCheck 40), none⟩, 0⟩, ⟨8, ⟨some 42, .pure (.fieldAddr 0 41), none⟩, 0⟩, ⟨9, ⟨some 43, .read (.ld1 42), none⟩, 0⟩, ⟨10, ⟨some 44, .pure (.build [0, .i .u32 0, .i .u32 0, 0, 0, 0] [(0, (5, 39)), (5, (1, 43))]), none⟩, 0⟩, ⟨11, ⟨some 45, .alloc (.bslice 6 1 [0, .i .u32 0, .i .u32 0, 0, 0, 0] [(0, (6, 44))]), none⟩, 0⟩], some (mY 46 (.append 6 40 38 45))⟩, ⟨[], [⟨13, ⟨some 47, .pure (.nilCheck 34), none⟩, 1⟩, ⟨14, ⟨some 48, .pure (.fieldAddr 2 47), none⟩, 1⟩], some (mZ (.st 1 48 46))⟩, ⟨[], [], none⟩]) (.seq (.reg [mM 49 0, mU 50 (.nilCheck 49), mF 2 51 50, mL 52 51, mU 53 (.lenSl 52), mM 5 53]) (.seq (.reg [mM 54 5, mB .gtr 55 54 (.c 64)]) (.cond 55 (.reg [mM 56 0, mM 57 0, mU 58 (.nilCheck 57), mF 2 59 58, mL 60 59, mM 61 5, mB .sub 62 61 (.c 64), mU 63 (.slSl 6 60 (some 62) none none), mU 64 (.nilCheck 56), mF 2 65 64, mZ (.st 1 65 63)]) .skip)))))
def r118 : List ARes := []
theorem k118 (c179 : T 179) (c197 : T 197) (c198 : T 198) : compFn Tryz.prog 118 = some ⟨66, (s118 c179 c197 c198).er, r118⟩ := by kernel_rfl
abbrev q118 (O : Ops Tryz.prog) (c179 : T 179) (c197 : T 197) (c198 : T 198) := curF 2 (sfn O (s118 c179 c197 c198) r118)
def g118 : { g // g = q118 } := by
  have h : q118 = q118 := rfl
  conv at h => rhs; reduce
  exact ⟨_, h.symm⟩
def C118 : T 118 := mkRun 2 (k118 C179 C197 C198) (by decide) (g118.1 (theOps Tryz.prog) C179 C197 C198) (by rw [g118.2])
/- 56: (*rampart/engine.Engine).plain -/
def s56 (c98 : T 98) (c100 : T 100) (c106 : T 106) (c111 : T 111) (c112 : T 112) (c113 : T 113) (c114 : T 114) (c115 : T 115) (c116 : T 116) (c117 : T 117) (c118 : T 118) : S := .seq (.reg [mK 4 (.b false)]) (.join [0, 1] [] (.seq (.reg [mM 9 1, mU 10 (.nilCheck 9), mF 34 11 10, mF 0 12 11, mL 13 12, mB .eql 14 13 (.c 6)]) (.cond 14 (.seq (.reg [mK 4 (.b true)]) .ret) .skip)) (.join [0, 1, 5] [] (.draw 0 [⟨[], [⟨0, ⟨some 15, .pure (.mv 1), none⟩, 0⟩, ⟨1, ⟨some 16, .pure (.nilCheck 15), none⟩, 0⟩, ⟨2, ⟨some 17, .pure (.fieldAddr 42 16), none⟩, 0⟩, ⟨3, ⟨some 18, .read (.ld1 17), none⟩, 0⟩, ⟨4, ⟨some 19, .pure (.nilCheck 18), none⟩, 0⟩, ⟨5, ⟨some 20, .pure (.fieldAddr 5 19), none⟩, 0⟩, ⟨6, ⟨some 21, .read (.ld1 20), none⟩, 0⟩, ⟨7, ⟨some 22, .pure (.mv 1), none⟩, 0⟩, ⟨8, ⟨some 23, .pure (.nilCheck 22), none⟩, 0⟩, ⟨9, ⟨some 24, .pure (.fieldAddr 42 23), none⟩, 0⟩, ⟨10, ⟨some 25, .read (.ld1 24), none⟩, 0⟩, ⟨11, ⟨some 26, .pure (.mv 1), none⟩, 0⟩, ⟨12, ⟨some 27, .pure (.nilCheck 26), none⟩, 0⟩, ⟨13, ⟨some 28, .pure (.fieldAddr 40 27), none⟩, 0⟩, ⟨14, ⟨some 29, .read (.ld1 28), none⟩, 0⟩, ⟨15, ⟨some 30, .pure (.nilCheck 25), none⟩, 0⟩, ⟨16, ⟨some 31, .pure (.fieldAddr 6 30), none⟩, 0⟩, ⟨17, ⟨some 32, .pure (.idxAddrArr 2 1 31 29), none⟩, 0⟩, ⟨18, ⟨some 33, .read (.ld1 32), none⟩, 0⟩, ⟨19, ⟨some 34, .pure (.mv 0), none⟩, 0⟩, ⟨20, ⟨some 35, .pure (.nilCheck 34), none⟩, 0⟩, ⟨21, ⟨some 36, .pure (.fieldAddr 0 35), none⟩, 0⟩, ⟨22, ⟨some 37, .pure (.fieldAddr 4 36), none⟩, 0⟩, ⟨23, ⟨some 38, .read (.ld1 37), none⟩, 0⟩], some (mQ 39 111 [21, 33, 38] c111)⟩, ⟨[], [⟨25, ⟨some 5, .pure (.mv 39), none⟩, 1⟩], none⟩]) (.join [0, 1, 5, 6, 7] [] (.reg [mM 41 5, mQ 42 112 [41] c112, mM 40 42, mU 43 (.extract 0 40), mU 44 (.extract 1 40), mM 6 43, mM 7 44]) (.seq (.reg [mM 45 0, mM 46 1, mM 47 6, mQ 48 113 [45, 46, 47] c113]) (.join [0, 1, 7] [] (.seq (.reg [mK 8 0]) (.block 0 (.loop [7, 8] [0, 1, 5] (.seq (.seq (.reg [mM 49 8, mM 50 1, mU 51 (.nilCheck 50), mF 33 52 51, mL 53 52, mU 54 (.lenS 53), mB .lss 55 49 54, mM 56 55, (mM 57 7).g 56 true, (mQ 58 114 [57, .c 1] c114).g 56 true, (mU 59 (.un .not 58)).g 56 true, mU 60 (.pick 56 59 (.c (.b false)))]) (.cond 60 .skip (.exit 0))) (.seq (.block 1 (.seq (.reg [mM 64 5, mM 65 1, mU 66 (.nilCheck 65), mF 33 67 66, mL 68 67, mM 69 8, mU 70 (.idxStr 68 69), mQ 71 115 [64, 70] c115, mM 63 71, mU 72 (.extract 0 63), mU 73 (.extract 1 63), mM 6 72, mM 7 73]) (.reg [mM 74 0, mM 75 1, mM 76 6, mQ 77 113 [74, 75, 76] c113]))) (.reg [mM 61 8, mB .add 62 61 (.c 1), mM 8 62])))))) (.join [0] [] (.seq (.reg [mM 78 7]) (.block 2 (.seq (.reg [mB .eql 96 78 (.c 2), mM 95 96]) (.cond 95 .skip (.seq (.reg [mB .eql 98 78 (.c 3), mM 97 98]) (.cond 97 (.draw 0 [⟨[], [⟨0, ⟨some 99, .pure (.mv 1), none⟩, 1⟩, ⟨1, ⟨some 100, .pure (.mv 1), none⟩, 1⟩, ⟨2, ⟨some 101, .pure (.nilCheck 100), none⟩, 1⟩, ⟨3, ⟨some 102, .pure (.fieldAddr 0 101), none⟩, 1⟩, ⟨4, ⟨some 103, .read (.ld1 102), none⟩, 1⟩, ⟨5, ⟨some 104, .pure (.mv 1), none⟩, 0⟩, ⟨6, ⟨some 105, .pure (.nilCheck 104), none⟩, 0⟩, ⟨7, ⟨some 106, .pure (.fieldAddr 2 105), none⟩, 0⟩, ⟨8, ⟨some 107, .read (.ldN 13 106), none⟩, 0⟩, ⟨9, ⟨some 108, .pure (.mv 1), none⟩, 0⟩, ⟨10, ⟨some 109, .pure (.nilCheck 108), none⟩, 0⟩, ⟨11, ⟨some 110, .pure (.fieldAddr 15 109), none⟩, 0⟩, ⟨12, ⟨some 111, .read (.ldN 10 110), none⟩, 0⟩, ⟨13, ⟨some 112, .pure (.mv 1), none⟩, 0⟩, ⟨14, ⟨some 113, .pure (.nilCheck 112), none⟩, 0⟩, ⟨15, ⟨some 114, .pure (.fieldAddr 25 113), none⟩, 0⟩, ⟨16, ⟨some 115, .read (.ld1 114), none⟩, 0⟩], some (mQ 116 117 [107, 111, 115] c117)⟩, ⟨[⟨some 103, .read (.ld1 102), none⟩], [], some (mQ 117 116 [99, 103, 116] c116)⟩, ⟨[], [], none⟩]) (.seq (.reg [mB .eql 119 78 (.c 4), mM 118 119]) (.cond 118 (.draw 0 [⟨[], [⟨0, ⟨some 120, .pure (.mv 0), none⟩, 0⟩, ⟨1, ⟨some 121, .pure (.nilCheck 120), none⟩, 0⟩, ⟨2, ⟨some 122, .pure (.fieldAddr 13 121), none⟩, 0⟩, ⟨3, ⟨some 123, .read (.ld1 122), none⟩, 0⟩, ⟨4, ⟨some 124, .pure (.mv 1), none⟩, 0⟩, ⟨5, ⟨some 125, .pure (.nilCheck 124), none⟩, 0⟩, ⟨6, ⟨some 126, .pure (.fieldAddr 42 125), none⟩, 0⟩, ⟨7, ⟨some 127, .read (.ld1 126), none⟩, 0⟩, ⟨8, ⟨some 128, .pure (.nilCheck 127), none⟩, 0⟩, ⟨9, ⟨some 129, .pure (.fieldAddr 0 128), none⟩, 0⟩, ⟨10, ⟨some 130, .read (.ldN 5 129), none⟩, 0⟩], some (mQ 131 118 [123, 130] c118)⟩, ⟨[], [], none⟩]) (.seq (.draw 0 [⟨[], [⟨0, ⟨some 79, .pure (.mv 0), none⟩, 1⟩, ⟨1, ⟨some 80, .pure (.mv 1), none⟩, 1⟩, ⟨2, ⟨some 81, .pure (.mv 1), none⟩, 0⟩, ⟨3, ⟨some 82, .pure (.nilCheck 81), none⟩, 0⟩, ⟨4, ⟨some 83, .pure (.fieldAddr 2 82), none⟩, 0⟩, ⟨5, ⟨some 84, .read (.ldN 13 83), none⟩, 0⟩, ⟨6, ⟨some 85, .pure (.mv 1), none⟩, 0⟩, ⟨7, ⟨some 86, .pure (.nilCheck 85), none⟩, 0⟩, ⟨8, ⟨some 87, .pure (.fieldAddr 15 86), none⟩, 0⟩, ⟨9, ⟨some 88, .read (.ldN 10 87), none⟩, 0⟩, ⟨10, ⟨some 89, .pure (.mv 1), none⟩, 0⟩, ⟨11, ⟨some 90, .pure (.nilCheck 89), none⟩, 0⟩, ⟨12, ⟨some 91, .pure (.fieldAddr 25 90), none⟩, 0⟩, ⟨13, ⟨some 92, .read (.ld1 91), none⟩, 0⟩], some (mQ 93 106 [84, 88, 92] c106)⟩, ⟨[], [], some (mQ 94 100 [79, 80, 93] c100)⟩, ⟨[], [⟨16, ⟨some 4, .pure (.mv 94), none⟩, 2⟩], none⟩]) .ret))))))))) (.seq (.reg [mM 132 0, mU 133 (.nilCheck 132), mF 15 134 133, mF 4 135 134, mQ 136 98 [135] c98, mM 4 136]) .ret)))))))
def r56 : List ARes := [.t 4]
theorem k56 (c98 : T 98) (c100 : T 100) (c106 : T 106) (c111 : T 111) (c112 : T 112) (c113 : T 113) (c114 : T 114) (c115 : T 115) (c116 : T 116) (c117 : T 117) (c118 : T 118) : compFn Tryz.prog 56 = some ⟨137, (s56 c98 c100 c106 c111 c112 c113 c114 c115 c116 c117 c118).er, r56⟩ := by kernel_rfl
abbrev q56 (O : Ops Tryz.prog) (c98 : T 98) (c100 : T 100) (c106 : T 106) (c111 : T 111) (c112 : T 112) (c113 : T 113) (c114 : T 114) (c115 : T 115) (c116 : T 116) (c117 : T 117) (c118 : T 118) := curF 2 (sfn O (s56 c98 c100 c106 c111 c112 c113 c114 c115 c116 c117 c118) r56)
def g56 : { g // g = q56 } := by
  have h : q56 = q56 := rfl
  conv at h => rhs; reduce
  exact ⟨_, h.symm⟩
def C56 : T 56 := mkRun 2 (k56 C98 C100 C106 C111 C112 C113 C114 C115 C116 C117 C118) (by decide) (g56.1 (theOps Tryz.prog) C98 C100 C106 C111 C112 C113 C114 C115 C116 C117 C118) (by rw [g56.2])
def A56 : U := ⟨56, C56⟩
/- 199: rampart/dir.Start -/
def s199 : S := .seq (.reg [mK 6 (.p none)]) (.seq (.reg [mM 7 0, mM 8 1, mU 9 (.mxmn false [8, .c 1024]), mU 10 (.mxmn true [.c 0, 9]), mM 11 2, mU 12 (.mxmn false [11, .c 1024]), mU 13 (.mxmn true [.c 0, 12]), mN 14 .mkmap, mU 15 (.build [.i .u32 0, 0, 0, 0, .m none, .s [], 0, .b false] [(0, (1, 7)), (1, (1, 10)), (2, (1, 13)), (4, (1, 14)), (6, (1, .c (.i .i64 (-1))))]), mN 16 (.box 15), mM 6 16]) .ret)
def r199 : List ARes := [.t 6]
theorem k199 : compFn Tryz.prog 199 = some ⟨17, (s199).er, r199⟩ := by kernel_rfl
abbrev q199 (O : Ops Tryz.prog) := curF 3 (sfn O (s199) r199)
def g199 : { g // g = q199 } := by
  have h : q199 = q199 := rfl
  conv at h => rhs; reduce
  exact ⟨_, h.symm⟩
def C199 : T 199 := mkRun 3 (k199) (by decide) (g199.1 (theOps Tryz.prog)) (by rw [g199.2])
/- 293: rampart/seq.to[uint32,int] -/
def s293 : S := .seq (.reg [mK 2 (.i .u32 0)]) (.seq (.reg [mM 3 0, mU 4 (.conv .u32 3), mM 2 4]) .ret)
def r293 : List ARes := [.t 2]
theorem k293 : compFn Tryz.prog 293 = some ⟨5, (s293).er, r293⟩ := by kernel_rfl
abbrev q293 (O : Ops Tryz.prog) := curF 1 (sfn O (s293) r293)
def g293 : { g // g = q293 } := by
  have h : q293 = q293 := rfl
  conv at h => rhs; reduce
  exact ⟨_, h.symm⟩
def C293 : T 293 := mkRun 1 (k293) (by decide) (g293.1 (theOps Tryz.prog)) (by rw [g293.2])
/- 225: rampart/seq.Plus -/
def s225 (c293 : T 293) : S := .seq (.reg [mK 4 (.i .u32 0)]) (.seq (.reg [mM 5 0, mM 6 1, mQ 7 293 [6] c293, mB .add 8 5 7, mM 4 8]) .ret)
def r225 : List ARes := [.t 4]
theorem k225 (c293 : T 293) : compFn Tryz.prog 225 = some ⟨9, (s225 c293).er, r225⟩ := by kernel_rfl
abbrev q225 (O : Ops Tryz.prog) (c293 : T 293) := curF 2 (sfn O (s225 c293) r225)
def g225 : { g // g = q225 } := by
  have h : q225 = q225 := rfl
  conv at h => rhs; reduce
  exact ⟨_, h.symm⟩
def C225 : T 225 := mkRun 2 (k225 C293) (by decide) (g225.1 (theOps Tryz.prog) C293) (by rw [g225.2])
/- 202: (*rampart/dir.Dir).Seq -/
def s202 (c225 : T 225) : S := .seq (.reg [mK 4 (.i .u32 0)]) (.seq (.reg [mM 5 0, mU 6 (.nilCheck 5), mF 0 7 6, mL 8 7, mM 9 1, mQ 10 225 [8, 9] c225, mM 4 10]) .ret)
def r202 : List ARes := [.t 4]
theorem k202 (c225 : T 225) : compFn Tryz.prog 202 = some ⟨11, (s202 c225).er, r202⟩ := by kernel_rfl
abbrev q202 (O : Ops Tryz.prog) (c225 : T 225) := curF 2 (sfn O (s202 c225) r202)
def g202 : { g // g = q202 } := by
  have h : q202 = q202 := rfl
  conv at h => rhs; reduce
  exact ⟨_, h.symm⟩
def C202 : T 202 := mkRun 2 (k202 C225) (by decide) (g202.1 (theOps Tryz.prog) C225) (by rw [g202.2])
/- 203: (*rampart/dir.Dir).At -/
def s203 : S := .seq (.reg [mK 2 0]) (.seq (.reg [mM 3 0, mU 4 (.nilCheck 3), mF 3 5 4, mL 6 5, mM 2 6]) .ret)
def r203 : List ARes := [.t 2]
theorem k203 : compFn Tryz.prog 203 = some ⟨7, (s203).er, r203⟩ := by kernel_rfl
abbrev q203 (O : Ops Tryz.prog) := curF 1 (sfn O (s203) r203)
def g203 : { g // g = q203 } := by
  have h : q203 = q203 := rfl
  conv at h => rhs; reduce
  exact ⟨_, h.symm⟩
def C203 : T 203 := mkRun 1 (k203) (by decide) (g203.1 (theOps Tryz.prog)) (by rw [g203.2])
/- 363: (rampart/tcp.head).size -/
def s363 : S := .seq (.reg [mN 1 (.box 0), mK 2 0]) (.seq (.reg [mF 0 3 1, mF 6 4 3, mL 5 4, mU 6 (.lenS 5), mB .add 7 (.c 20) 6, mM 2 7]) .ret)
def r363 : List ARes := [.t 2]
theorem k363 : compFn Tryz.prog 363 = some ⟨8, (s363).er, r363⟩ := by kernel_rfl
abbrev q363 (O : Ops Tryz.prog) := curF 1 (sfn O (s363) r363)
def g363 : { g // g = q363 } := by
  have h : q363 = q363 := rfl
  conv at h => rhs; reduce
  exact ⟨_, h.symm⟩
def C363 : T 363 := mkRun 1 (k363) (by decide) (g363.1 (theOps Tryz.prog)) (by rw [g363.2])
/- 383: rampart/tcp.in -/
def s383 : S := .seq (.reg [mK 4 (.b false)]) (.seq (.reg [mM 5 0, mB .geq 6 5 (.c 0), mM 7 6, (mM 8 0).g 7 true, (mM 9 1).g 7 true, (mB .leq 10 8 9).g 7 true, mU 11 (.pick 7 10 (.c (.b false))), mM 4 11]) .ret)
def r383 : List ARes := [.t 4]
theorem k383 : compFn Tryz.prog 383 = some ⟨12, (s383).er, r383⟩ := by kernel_rfl
abbrev q383 (O : Ops Tryz.prog) := curF 2 (sfn O (s383) r383)
def g383 : { g // g = q383 } := by
  have h : q383 = q383 := rfl
  conv at h => rhs; reduce
  exact ⟨_, h.symm⟩
def C383 : T 383 := mkRun 2 (k383) (by decide) (g383.1 (theOps Tryz.prog)) (by rw [g383.2])
/- 364: rampart/tcp.Check -/
def s364 (c383 : T 383) : S := .seq (.reg [mN 1 (.box 0), mK 2 (.b false)]) (.seq (.reg [mF 0 3 1, mL 4 3, mQ 5 383 [4, .c 65535] c383, mM 6 5, (mF 1 7 1).g 6 true, (mL 8 7).g 6 true, (mQ 9 383 [8, .c 65535] c383).g 6 true, mU 10 (.pick 6 9 (.c (.b false))), mM 11 10, (mF 5 12 1).g 11 true, (mL 13 12).g 11 true, (mQ 14 383 [13, .c 65535] c383).g 11 true, mU 15 (.pick 11 14 (.c (.b false))), mM 16 15, (mF 4 17 1).g 16 true, (mL 18 17).g 16 true, (mQ 19 383 [18, .c 63] c383).g 16 true, mU 20 (.pick 16 19 (.c (.b false))), mM 21 20, (mF 6 22 1).g 21 true, (mL 23 22).g 21 true, (mU 24 (.lenS 23)).g 21 true, (mB .leq 25 24 (.c 40)).g 21 true, mU 26 (.pick 21 25 (.c (.b false))), mM 27 26, (mF 6 28 1).g 27 true, (mL 29 28).g 27 true, (mU 30 (.lenS 29)).g 27 true, (mB .rem 31 30 (.c 4)).g 27 true, (mB .eql 32 31 (.c 0)).g 27 true, mU 33 (.pick 27 32 (.c (.b false))), mM 2 33]) .ret)
def r364 : List ARes := [.t 2]
theorem k364 (c383 : T 383) : compFn Tryz.prog 364 = some ⟨34, (s364 c383).er, r364⟩ := by kernel_rfl
abbrev q364 (O : Ops Tryz.prog) (c383 : T 383) := curF 1 (sfn O (s364 c383) r364)
def g364 : { g // g = q364 } := by
  have h : q364 = q364 := rfl
  conv at h => rhs; reduce
  exact ⟨_, h.symm⟩
def C364 : T 364 := mkRun 1 (k364 C383) (by decide) (g364.1 (theOps Tryz.prog) C383) (by rw [g364.2])
/- 326: rampart/tcp.Put -/
def s326 (c172 : T 172) (c252 : T 252) (c254 : T 254) (c363 : T 363) (c364 : T 364) : S := .seq (.reg [mN 6 (.box 2), mK 8 (.s []), mK 9 0]) (.join [3, 6, 10] [] (.reg [mR 14 (.ldN 7 6), mM 15 0, mM 16 1, mU 17 (.build [0, 0, .i .u32 0, .i .u32 0, 0, 0, .s [], .i .u32 0, .i .u32 0] [(0, (7, 14)), (7, (1, 15)), (8, (1, 16))]), mN 10 (.newz [0, 0, .i .u32 0, .i .u32 0, 0, 0, .s [], .i .u32 0, .i .u32 0]), mZ (.st 9 10 17)]) (.join [3, 6, 10, 11] [] (.reg [mR 18 (.ldN 9 10), mQ 19 363 [18] c363, mM 20 3, mU 21 (.lenS 20), mB .add 22 19 21, mM 11 22]) (.join [3, 10, 11] [] (.block 0 (.seq (.reg [mR 24 (.ldN 7 6), mQ 25 364 [24] c364, mU 26 (.un .not 25), mM 23 26]) (.cond 23 (.seq (.reg [mK 8 (.s []), mK 9 1]) .ret) (.seq (.reg [mM 28 11, mB .gtr 29 28 (.c 2000), mM 27 29]) (.cond 27 (.seq (.reg [mK 8 (.s []), mK 9 5]) .ret) .skip))))) (.join [3, 10, 11, 12] [] (.draw 0 [⟨[], [⟨0, ⟨some 30, .pure (.fieldAddr 0 10), none⟩, 0⟩, ⟨1, ⟨some 31, .pure (.fieldAddr 0 30), none⟩, 0⟩, ⟨2, ⟨some 32, .read (.ld1 31), none⟩, 0⟩, ⟨4, ⟨some 34, .pure (.fieldAddr 0 10), none⟩, 1⟩, ⟨5, ⟨some 35, .pure (.fieldAddr 1 34), none⟩, 1⟩, ⟨6, ⟨some 36, .read (.ld1 35), none⟩, 1⟩, ⟨9, ⟨some 39, .pure (.fieldAddr 0 10), none⟩, 2⟩, ⟨10, ⟨some 40, .pure (.fieldAddr 2 39), none⟩, 2⟩, ⟨11, ⟨some 41, .read (.ld1 40), none⟩, 2⟩, ⟨12, ⟨some 42, .pure (.conv .i64 41), none⟩, 2⟩, ⟨15, ⟨some 45, .pure (.fieldAddr 0 10), none⟩, 3⟩, ⟨16, ⟨some 46, .pure (.fieldAddr 3 45), none⟩, 3⟩, ⟨17, ⟨some 47, .read (.ld1 46), none⟩, 3⟩, ⟨18, ⟨some 48, .pure (.conv .i64 47), none⟩, 3⟩, ⟨21, ⟨some 51, .read (.ldN 9 10), none⟩, 4⟩, ⟨27, ⟨some 57, .pure (.fieldAddr 0 10), none⟩, 6⟩, ⟨28, ⟨some 58, .pure (.fieldAddr 4 57), none⟩, 6⟩, ⟨29, ⟨some 59, .read (.ld1 58), none⟩, 6⟩, ⟨32, ⟨some 62, .pure (.fieldAddr 0 10), none⟩, 7⟩, ⟨33, ⟨some 63, .pure (.fieldAddr 5 62), none⟩, 7⟩, ⟨34, ⟨some 64, .read (.ld1 63), none⟩, 7⟩], some (mQ 33 254 [32, .c 2] c254)⟩, ⟨[⟨some 36, .read (.ld1 35), none⟩, ⟨some 41, .read (.ld1 40), none⟩, ⟨some 47, .read (.ld1 46), none⟩, ⟨some 51, .read (.ldN 9 10), none⟩, ⟨some 59, .read (.ld1 58), none⟩, ⟨some 64, .read (.ld1 63), none⟩], [], some (mQ 37 254 [36, .c 2] c254)⟩, ⟨[⟨some 41, .read (.ld1 40), none⟩, ⟨some 47, .read (.ld1 46), none⟩, ⟨some 51, .read (.ldN 9 10), none⟩, ⟨some 59, .read (.ld1 58), none⟩, ⟨some 64, .read (.ld1 63), none⟩], [⟨8, ⟨some 38, .pure (.bin .add 33 37), none⟩, 8⟩], some (mQ 43 254 [42, .c 4] c254)⟩, ⟨[⟨some 47, .read (.ld1 46), none⟩, ⟨some 51, .read (.ldN 9 10), none⟩, ⟨some 59, .read (.ld1 58), none⟩, ⟨some 64, .read (.ld1 63), none⟩], [⟨14, ⟨some 44, .pure (.bin .add 38 43), none⟩, 8⟩], some (mQ 49 254 [48, .c 4] c254)⟩, ⟨[⟨some 51, .read (.ldN 9 10), none⟩, ⟨some 59, .read (.ld1 58), none⟩, ⟨some 64, .read (.ld1 63), none⟩], [⟨20, ⟨some 50, .pure (.bin .add 44 49), none⟩, 8⟩], some (mQ 52 363 [51] c363)⟩, ⟨[⟨some 59, .read (.ld1 58), none⟩, ⟨some 64, .read (.ld1 63), none⟩], [⟨23, ⟨some 53, .pure (.bin .quo 52 (.c 4)), none⟩, 5⟩, ⟨24, ⟨some 54, .pure (.bin .shl 53 (.c (.i .u64 4))), none⟩, 5⟩], some (mQ 55 254 [54, .c 1] c254)⟩, ⟨[⟨some 59, .read (.ld1 58), none⟩, ⟨some 64, .read (.ld1 63), none⟩], [⟨26, ⟨some 56, .pure (.bin .add 50 55), none⟩, 8⟩], some (mQ 60 254 [59, .c 1] c254)⟩, ⟨[⟨some 64, .read (.ld1 63), none⟩], [⟨31, ⟨some 61, .pure (.bin .add 56 60), none⟩, 8⟩], some (mQ 65 254 [64, .c 2] c254)⟩, ⟨[], [⟨36, ⟨some 66, .pure (.bin .add 61 65), none⟩, 8⟩, ⟨37, ⟨some 12, .pure (.mv 66), none⟩, 8⟩], none⟩]) (.seq (.reg [mF 0 67 10, mF 6 68 67, mL 69 68, mB .add 70 (.c (.s [0, 0])) 69, mM 71 3, mB .add 72 70 71, mM 13 72]) (.seq (.reg [mM 73 12, mR 74 (.ldN 9 10), mM 75 11, mQ 76 252 [74, 75] c252, mM 77 12, mM 78 13, mN 79 (.bslice 1 4 [.s [], .s [], .s [], .s []] [(0, (1, 76)), (1, (1, 77)), (2, (1, .c (.s [0, 0]))), (3, (1, 78))]), mQ 80 172 [79] c172, mQ 81 254 [80, .c 2] c254, mB .add 82 73 81, mM 83 13, mB .add 84 82 83, mM 8 84, mK 9 0]) .ret))))))
def r326 : List ARes := [.t 8, .t 9]
theorem k326 (c172 : T 172) (c252 : T 252) (c254 : T 254) (c363 : T 363) (c364 : T 364) : compFn Tryz.prog 326 = some ⟨85, (s326 c172 c252 c254 c363 c364).er, r326⟩ := by kernel_rfl
abbrev q326 (O : Ops Tryz.prog) (c172 : T 172) (c252 : T 252) (c254 : T 254) (c363 : T 363) (c364 : T 364) := curF 4 (sfn O (s326 c172 c252 c254 c363 c364) r326)
def g326 : { g // g = q326 } := by
  have h : q326 = q326 := rfl
  conv at h => rhs; reduce
  exact ⟨_, h.symm⟩
def C326 : T 326 := mkRun 4 (k326 C172 C252 C254 C363 C364) (by decide) (g326.1 (theOps Tryz.prog) C172 C252 C254 C363 C364) (by rw [g326.2])
/- 272: rampart/craft.Segment -/
def s272 (c106 : T 106) (c326 : T 326) : S := .join [3, 4, 5, 6] [] (.reg [mN 4 (.box 0), mN 5 (.box 1), mN 6 (.box 2), mK 8 (.s [])]) (.seq (.reg [mF 7 12 5, mL 13 12, mF 8 14 5, mL 15 14, mR 16 (.ldN 7 6), mM 17 3, mQ 18 326 [13, 15, 16, 17] c326, mM 11 18, mU 19 (.extract 0 11), mU 20 (.extract 1 11), mM 9 19, mM 10 20]) (.seq (.seq (.reg [mM 21 10, mB .neq 22 21 (.c 0)]) (.cond 22 (.seq (.reg [mK 8 (.s [])]) .ret) .skip)) (.seq (.reg [mR 23 (.ldN 13 4), mR 24 (.ldN 10 5), mM 25 9, mQ 26 106 [23, 24, 25] c106, mM 8 26]) .ret)))
def r272 : List ARes := [.t 8]
theorem k272 (c106 : T 106) (c326 : T 326) : compFn Tryz.prog 272 = some ⟨27, (s272 c106 c326).er, r272⟩ := by kernel_rfl
abbrev q272 (O : Ops Tryz.prog) (c106 : T 106) (c326 : T 326) := curF 4 (sfn O (s272 c106 c326) r272)
def g272 : { g // g = q272 } := by
  have h : q272 = q272 := rfl
  conv at h => rhs; reduce
  exact ⟨_, h.symm⟩
def C272 : T 272 := mkRun 4 (k272 C106 C326) (by decide) (g272.1 (theOps Tryz.prog) C106 C326) (by rw [g272.2])
/- 206: (*rampart/engine.Engine).data -/
def s206 (c100 : T 100) (c202 : T 202) (c272 : T 272) : S := .seq (.reg [mK 10 (.b false)]) (.join [0, 1, 2, 3, 4, 11] [] (.reg [mM 12 1, mU 13 (.nilCheck 12), mF 26 14 13, mR 15 (.ldN 7 14), mN 11 (.newz [0, 0, .i .u32 0, .i .u32 0, 0, 0, .s []]), mZ (.st 7 11 15)]) (.join [0, 1, 3, 4, 11] [] (.draw 0 [⟨[], [⟨0, ⟨some 16, .pure (.mv 1), none⟩, 0⟩, ⟨1, ⟨some 17, .pure (.nilCheck 16), none⟩, 0⟩, ⟨2, ⟨some 18, .pure (.fieldAddr 42 17), none⟩, 0⟩, ⟨3, ⟨some 19, .read (.ld1 18), none⟩, 0⟩, ⟨4, ⟨some 20, .pure (.mv 1), none⟩, 0⟩, ⟨5, ⟨some 21, .pure (.nilCheck 20), none⟩, 0⟩, ⟨6, ⟨some 22, .pure (.fieldAddr 40 21), none⟩, 0⟩, ⟨7, ⟨some 23, .read (.ld1 22), none⟩, 0⟩, ⟨8, ⟨some 24, .pure (.nilCheck 19), none⟩, 0⟩, ⟨9, ⟨some 25, .pure (.fieldAddr 8 24), none⟩, 0⟩, ⟨10, ⟨some 26, .pure (.idxAddrArr 2 1 25 23), none⟩, 0⟩, ⟨11, ⟨some 27, .read (.ld1 26), none⟩, 0⟩, ⟨12, ⟨some 28, .pure (.mv 2), none⟩, 0⟩], some (mQ 29 202 [27, 28] c202)⟩, ⟨[], [⟨14, ⟨some 30, .pure (.fieldAddr 2 11), none⟩, 1⟩], some (mZ (.st 1 30 29))⟩, ⟨[], [], none⟩]) (.join [0, 1, 3, 4, 11] [] (.reg [mF 4 31 11, mL 32 31, mB .andNot 33 32 (.c 1), mF 4 34 11, mZ (.st 1 34 33)]) (.join [0, 1, 3, 11] [] (.seq (.reg [mM 35 4]) (.cond 35 (.reg [mF 4 36 11, mL 37 36, mB .or 38 37 (.c 1), mF 4 39 11, mZ (.st 1 39 38)]) .skip)) (.seq (.draw 0 [⟨[], [⟨0, ⟨some 40, .pure (.mv 0), none⟩, 1⟩, ⟨1, ⟨some 41, .pure (.mv 1), none⟩, 1⟩, ⟨2, ⟨some 42, .pure (.mv 1), none⟩, 0⟩, ⟨3, ⟨some 43, .pure (.nilCheck 42), none⟩, 0⟩, ⟨4, ⟨some 44, .pure (.fieldAddr 2 43), none⟩, 0⟩, ⟨5, ⟨some 45, .read (.ldN 13 44), none⟩, 0⟩, ⟨6, ⟨some 46, .pure (.mv 1), none⟩, 0⟩, ⟨7, ⟨some 47, .pure (.nilCheck 46), none⟩, 0⟩, ⟨8, ⟨some 48, .pure (.fieldAddr 15 47), none⟩, 0⟩, ⟨9, ⟨some 49, .read (.ldN 10 48), none⟩, 0⟩, ⟨10, ⟨some 50, .read (.ldN 7 11), none⟩, 0⟩, ⟨11, ⟨some 51, .pure (.mv 3), none⟩, 0⟩], some (mQ 52 272 [45, 49, 50, 51] c272)⟩, ⟨[], [], some (mQ 53 100 [40, 41, 52] c100)⟩, ⟨[], [⟨14, ⟨some 10, .pure (.mv 53), none⟩, 2⟩], none⟩]) .ret)))))
def r206 : List ARes := [.t 10]
theorem k206 (c100 : T 100) (c202 : T 202) (c272 : T 272) : compFn Tryz.prog 206 = some ⟨54, (s206 c100 c202 c272).er, r206⟩ := by kernel_rfl
abbrev q206 (O : Ops Tryz.prog) (c100 : T 100) (c202 : T 202) (c272 : T 272) := curF 5 (sfn O (s206 c100 c202 c272) r206)
def g206 : { g // g = q206 } := by
  have h : q206 = q206 := rfl
  conv at h => rhs; reduce
  exact ⟨_, h.symm⟩
def C206 : T 206 := mkRun 5 (k206 C100 C202 C272) (by decide) (g206.1 (theOps Tryz.prog) C100 C202 C272) (by rw [g206.2])
/- 325: (rampart/craft.both).plain -/
def s325 : S := .join [1, 2] [] (.reg [mN 1 (.box 0), mN 2 (.newz [.i .u8 0, .i .u8 0, .i .u8 0, .i .u8 0, .i .u8 0, .i .u8 0, .i .u8 0, .i .u8 0, .i .u8 0, .i .u8 0, .i .u8 0, .i .u8 0, 0, 0, 0, .b false, .b false, 0, 0, 0, .i .u32 0, .i .u32 0, .s []])]) (.seq (.reg [mF 13 3 1, mF 2 4 3, mZ (.st 1 4 (.c (.b false))), mF 13 5 1, mF 3 6 5, mZ (.st 1 6 (.c (.b false))), mF 13 7 1, mF 4 8 7, mZ (.st 1 8 (.c 0)), mF 13 9 1, mF 9 10 9, mZ (.st 1 10 (.c (.s [])))]) (.seq (.reg [mR 11 (.ldN 23 1), mZ (.st 23 2 11)]) .ret))
def r325 : List ARes := [.c true 23 2]
theorem k325 : compFn Tryz.prog 325 = some ⟨12, (s325).er, r325⟩ := by kernel_rfl
abbrev q325 (O : Ops Tryz.prog) := curF 1 (sfn O (s325) r325)
def g325 : { g // g = q325 } := by
  have h : q325 = q325 := rfl
  conv at h => rhs; reduce
  exact ⟨_, h.symm⟩
def C325 : T 325 := mkRun 1 (k325) (by decide) (g325.1 (theOps Tryz.prog)) (by rw [g325.2])
def A325 : U := ⟨325, C325⟩
/- 271: rampart/craft.Reset -/
def s271 (c272 : T 272) (a196 : U) (a325 : U) : S := .join [3, 4, 5, 6, 7, 8] [] (.reg [mN 6 (.box 0), mN 7 (.box 1), mN 8 (.box 2), mK 12 (.s [])]) (.seq (.reg [mU 13 (.mv (.fn 325))]) (.join [3, 4, 6, 7, 8, 13] [] (.seq (.reg [mM 15 5]) (.cond 15 (.draw 0 [⟨[], [⟨0, ⟨some 16, .pure (.fieldAddr 1 8), none⟩, 0⟩, ⟨1, ⟨some 17, .read (.ld1 16), none⟩, 0⟩, ⟨2, ⟨some 18, .pure (.fieldAddr 0 8), none⟩, 0⟩, ⟨3, ⟨some 19, .read (.ld1 18), none⟩, 0⟩, ⟨4, ⟨some 13, .pure (.mv (.fn 196)), none⟩, 0⟩, ⟨5, ⟨some 20, .pure (.fieldAddr 0 8), none⟩, 0⟩], some (mZ (.st 1 20 17))⟩, ⟨[], [⟨7, ⟨some 21, .pure (.fieldAddr 1 8), none⟩, 1⟩], some (mZ (.st 1 21 19))⟩, ⟨[], [], none⟩]) .skip)) (.join [3, 4, 8, 14] [] (.reg [mM 22 13, mR 23 (.ldN 13 6), mR 24 (.ldN 10 7), mU 25 (.build [.i .u8 0, .i .u8 0, .i .u8 0, .i .u8 0, .i .u8 0, .i .u8 0, .i .u8 0, .i .u8 0, .i .u8 0, .i .u8 0, .i .u8 0, .i .u8 0, 0, 0, 0, .b false, .b false, 0, 0, 0, .i .u32 0, .i .u32 0, .s []] [(0, (13, 23)), (13, (10, 24))]), mV 26 22 [25] [a196, a325] [], mN 14 (.newz [.i .u8 0, .i .u8 0, .i .u8 0, .i .u8 0, .i .u8 0, .i .u8 0, .i .u8 0, .i .u8 0, .i .u8 0, .i .u8 0, .i .u8 0, .i .u8 0, 0, 0, 0, .b false, .b false, 0, 0, 0, .i .u32 0, .i .u32 0, .s []]), mZ (.st 23 14 26)]) (.seq (.reg [mF 0 27 14, mR 28 (.ldN 13 27), mF 13 29 14, mR 30 (.ldN 10 29), mF 0 31 8, mL 32 31, mF 1 33 8, mL 34 33, mM 35 3, mM 36 4, mU 37 (.build [0, 0, .i .u32 0, .i .u32 0, 0, 0, .s []] [(0, (1, 32)), (1, (1, 34)), (2, (1, 35)), (3, (1, 36)), (4, (1, .c 20))]), mQ 38 272 [28, 30, 37, .c (.s [])] c272, mM 12 38]) .ret))))
def r271 : List ARes := [.t 12]
theorem k271 (c272 : T 272) (a196 : U) (a325 : U) : compFn Tryz.prog 271 = some ⟨39, (s271 c272 a196 a325).er, r271⟩ := by kernel_rfl
abbrev q271 (O : Ops Tryz.prog) (c272 : T 272) (a196 : U) (a325 : U) := curF 6 (sfn O (s271 c272 a196 a325) r271)
def g271 : { g // g = q271 } := by
  have h : q271 = q271 := rfl
  conv at h => rhs; reduce
  exact ⟨_, h.symm⟩
def C271 : T 271 := mkRun 6 (k271 C272 A196 A325) (by decide) (g271.1 (theOps Tryz.prog) C272 A196 A325) (by rw [g271.2])
/- 200: (*rampart/engine.Engine).end -/
def s200 (c116 : T 116) (c118 : T 118) (c202 : T 202) (c203 : T 203) (c206 : T 206) (c271 : T 271) : S := .seq (.reg [mN 9 (.box 4)]) (.join [0, 1, 2, 3, 9, 10] [] (.reg [mM 15 1, mU 16 (.nilCheck 15), mF 42 17 16, mL 18 17, mM 10 18]) (.join [0, 1, 2, 3, 9, 10, 11, 12] [] (.draw 0 [⟨[], [⟨0, ⟨some 19, .pure (.mv 10), none⟩, 0⟩, ⟨1, ⟨some 20, .pure (.mv 1), none⟩, 0⟩, ⟨2, ⟨some 21, .pure (.nilCheck 20), none⟩, 0⟩, ⟨3, ⟨some 22, .pure (.fieldAddr 40 21), none⟩, 0⟩, ⟨4, ⟨some 23, .read (.ld1 22), none⟩, 0⟩, ⟨5, ⟨some 24, .pure (.nilCheck 19), none⟩, 0⟩, ⟨6, ⟨some 25, .pure (.fieldAddr 8 24), none⟩, 0⟩, ⟨7, ⟨some 26, .pure (.idxAddrArr 2 1 25 23), none⟩, 0⟩, ⟨8, ⟨some 27, .read (.ld1 26), none⟩, 0⟩, ⟨9, ⟨some 28, .pure (.mv 10), none⟩, 0⟩, ⟨10, ⟨some 29, .pure (.mv 1), none⟩, 0⟩, ⟨11, ⟨some 30, .pure (.nilCheck 29), none⟩, 0⟩, ⟨12, ⟨some 31, .pure (.fieldAddr 40 30), none⟩, 0⟩, ⟨13, ⟨some 32, .read (.ld1 31), none⟩, 0⟩, ⟨14, ⟨some 33, .pure (.bin .sub (.c 1) 32), none⟩, 0⟩, ⟨15, ⟨some 34, .pure (.nilCheck 28), none⟩, 0⟩, ⟨16, ⟨some 35, .pure (.fieldAddr 8 34), none⟩, 0⟩, ⟨17, ⟨some 36, .pure (.idxAddrArr 2 1 35 33), none⟩, 0⟩, ⟨18, ⟨some 37, .read (.ld1 36), none⟩, 0⟩, ⟨19, ⟨some 11, .pure (.mv 27), none⟩, 0⟩, ⟨20, ⟨some 12, .pure (.mv 37), none⟩, 0⟩], none⟩]) (.join [0, 1, 2, 3, 10, 11, 12] [] (.join [0, 1, 2, 3, 9, 10, 11, 12, 42] [] (.reg [mM 38 3, mB .sub 39 38 (.c 1), mF 1 40 9, mL 41 40, mB .gtr 42 39 41]) (.cond 42 (.draw 0 [⟨[], [⟨0, ⟨some 43, .pure (.mv 0), none⟩, 0⟩, ⟨1, ⟨some 44, .pure (.mv 1), none⟩, 0⟩, ⟨2, ⟨some 45, .pure (.fieldAddr 1 9), none⟩, 0⟩, ⟨3, ⟨some 46, .read (.ld1 45), none⟩, 0⟩, ⟨4, ⟨some 47, .pure (.fieldAddr 2 9), none⟩, 0⟩, ⟨5, ⟨some 48, .read (.ld1 47), none⟩, 0⟩, ⟨6, ⟨some 49, .pure (.mv 3), none⟩, 0⟩, ⟨7, ⟨some 50, .pure (.bin .sub 49 (.c 1)), none⟩, 0⟩, ⟨8, ⟨some 51, .pure (.fieldAddr 1 9), none⟩, 0⟩, ⟨9, ⟨some 52, .read (.ld1 51), none⟩, 0⟩, ⟨10, ⟨some 53, .pure (.bin .sub 50 52), none⟩, 0⟩, ⟨11, ⟨some 54, .pure (.slStr 48 none (some 53)), none⟩, 0⟩], some (mQ 55 206 [43, 44, 46, 54, .c (.b false)] c206)⟩, ⟨[], [], none⟩]) .skip)) (.join [0, 1, 2, 3, 10, 11, 12] [] (.reg [mM 56 0, mU 57 (.nilCheck 56), mF 15 58 57, mF 4 59 58, mL 60 59, mB .add 61 60 (.c 1), mU 62 (.nilCheck 56), mF 15 63 62, mF 4 64 63, mZ (.st 1 64 61)]) (.join [0, 1, 2, 3, 10, 11, 12] [] (.reg [mM 65 10, mU 66 (.nilCheck 65), mF 12 67 66, mZ (.st 1 67 (.c (.b true)))]) (.seq (.reg [mM 68 2]) (.block 0 (.seq (.reg [mB .eql 70 68 (.c 3), mM 69 70]) (.cond 69 (.join [1, 3, 11, 12, 13, 14] [] (.draw 0 [⟨[], [⟨0, ⟨some 71, .pure (.mv 1), none⟩, 0⟩, ⟨1, ⟨some 72, .pure (.nilCheck 71), none⟩, 0⟩, ⟨2, ⟨some 73, .pure (.fieldAddr 26 72), none⟩, 0⟩, ⟨3, ⟨some 74, .pure (.fieldAddr 3 73), none⟩, 0⟩, ⟨4, ⟨some 75, .read (.ld1 74), none⟩, 0⟩, ⟨5, ⟨some 76, .pure (.mv 1), none⟩, 0⟩, ⟨6, ⟨some 77, .pure (.nilCheck 76), none⟩, 0⟩, ⟨7, ⟨some 78, .pure (.fieldAddr 26 77), none⟩, 0⟩, ⟨8, ⟨some 79, .pure (.fieldAddr 2 78), none⟩, 0⟩, ⟨9, ⟨some 80, .read (.ld1 79), none⟩, 0⟩, ⟨10, ⟨some 81, .pure (.bin .add 80 (.c (.i .u32 1))), none⟩, 0⟩, ⟨11, ⟨some 13, .pure (.mv 75), none⟩, 0⟩, ⟨12, ⟨some 14, .pure (.mv 81), none⟩, 0⟩], none⟩]) (.join [1, 3, 11, 13, 14] [] (.seq (.reg [mM 82 12, mR 83 (.peq true 82 (.c (.p none)))]) (.cond 83 (.reg [mM 84 12, mM 85 12, mQ 86 203 [85] c203, mQ 87 202 [84, 86] c202, mM 13 87]) .skip)) (.join [1, 13, 14] [] (.seq (.reg [mM 88 3, mB .gtr 89 88 (.c 0)]) (.cond 89 (.join [1, 13, 14] [] (.reg [mM 90 11, mM 91 3, mB .sub 92 91 (.c 1), mQ 93 202 [90, 92] c202, mM 14 93]) (.draw 0 [⟨[], [⟨0, ⟨some 94, .pure (.mv 1), none⟩, 1⟩, ⟨1, ⟨some 95, .pure (.mv 1), none⟩, 1⟩, ⟨2, ⟨some 96, .pure (.nilCheck 95), none⟩, 1⟩, ⟨3, ⟨some 97, .pure (.fieldAddr 0 96), none⟩, 1⟩, ⟨4, ⟨some 98, .read (.ld1 97), none⟩, 1⟩, ⟨5, ⟨some 99, .pure (.bin .sub (.c 1) 98), none⟩, 1⟩, ⟨6, ⟨some 100, .pure (.mv 1), none⟩, 0⟩, ⟨7, ⟨some 101, .pure (.nilCheck 100), none⟩, 0⟩, ⟨8, ⟨some 102, .pure (.fieldAddr 2 101), none⟩, 0⟩, ⟨9, ⟨some 103, .read (.ldN 13 102), none⟩, 0⟩, ⟨10, ⟨some 104, .pure (.mv 1), none⟩, 0⟩, ⟨11, ⟨some 105, .pure (.nilCheck 104), none⟩, 0⟩, ⟨12, ⟨some 106, .pure (.fieldAddr 15 105), none⟩, 0⟩, ⟨13, ⟨some 107, .read (.ldN 10 106), none⟩, 0⟩, ⟨14, ⟨some 108, .pure (.mv 1), none⟩, 0⟩, ⟨15, ⟨some 109, .pure (.nilCheck 108), none⟩, 0⟩, ⟨16, ⟨some 110, .pure (.fieldAddr 26 109), none⟩, 0⟩, ⟨17, ⟨some 111, .read (.ldN 7 110), none⟩, 0⟩, ⟨18, ⟨some 112, .pure (.mv 14), none⟩, 0⟩, ⟨19, ⟨some 113, .pure (.mv 13), none⟩, 0⟩], some (mQ 114 271 [103, 107, 111, 112, 113, .c (.b false)] c271)⟩, ⟨[⟨some 98, .read (.ld1 97), none⟩], [], some (mQ 115 116 [94, 99, 114] c116)⟩, ⟨[], [], none⟩])) .skip)) (.draw 0 [⟨[], [⟨0, ⟨some 116, .pure (.mv 1), none⟩, 1⟩, ⟨1, ⟨some 117, .pure (.mv 1), none⟩, 1⟩, ⟨2, ⟨some 118, .pure (.nilCheck 117), none⟩, 1⟩, ⟨3, ⟨some 119, .pure (.fieldAddr 0 118), none⟩, 1⟩, ⟨4, ⟨some 120, .read (.ld1 119), none⟩, 1⟩, ⟨5, ⟨some 121, .pure (.mv 1), none⟩, 0⟩, ⟨6, ⟨some 122, .pure (.nilCheck 121), none⟩, 0⟩, ⟨7, ⟨some 123, .pure (.fieldAddr 2 122), none⟩, 0⟩, ⟨8, ⟨some 124, .read (.ldN 13 123), none⟩, 0⟩, ⟨9, ⟨some 125, .pure (.mv 1), none⟩, 0⟩, ⟨10, ⟨some 126, .pure (.nilCheck 125), none⟩, 0⟩, ⟨11, ⟨some 127, .pure (.fieldAddr 15 126), none⟩, 0⟩, ⟨12, ⟨some 128, .read (.ldN 10 127), none⟩, 0⟩, ⟨13, ⟨some 129, .pure (.mv 1), none⟩, 0⟩, ⟨14, ⟨some 130, .pure (.nilCheck 129), none⟩, 0⟩, ⟨15, ⟨some 131, .pure (.fieldAddr 26 130), none⟩, 0⟩, ⟨16, ⟨some 132, .read (.ldN 7 131), none⟩, 0⟩, ⟨17, ⟨some 133, .pure (.mv 13), none⟩, 0⟩, ⟨18, ⟨some 134, .pure (.mv 14), none⟩, 0⟩], some (mQ 135 271 [124, 128, 132, 133, 134, .c (.b true)] c271)⟩, ⟨[⟨some 120, .read (.ld1 119), none⟩], [], some (mQ 136 116 [116, 120, 135] c116)⟩, ⟨[], [], none⟩])))) (.seq (.reg [mB .eql 138 68 (.c 4), mM 137 138]) (.cond 137 (.draw 0 [⟨[], [⟨0, ⟨some 139, .pure (.mv 0), none⟩, 0⟩, ⟨1, ⟨some 140, .pure (.nilCheck 139), none⟩, 0⟩, ⟨2, ⟨some 141, .pure (.fieldAddr 13 140), none⟩, 0⟩, ⟨3, ⟨some 142, .read (.ld1 141), none⟩, 0⟩, ⟨4, ⟨some 143, .pure (.mv 10), none⟩, 0⟩, ⟨5, ⟨some 144, .pure (.nilCheck 143), none⟩, 0⟩, ⟨6, ⟨some 145, .pure (.fieldAddr 0 144), none⟩, 0⟩, ⟨7, ⟨some 146, .read (.ldN 5 145), none⟩, 0⟩], some (mQ 147 118 [142, 146] c118)⟩, ⟨[], [], none⟩]) .skip)))))))))))
def r200 : List ARes := []
theorem k200 (c116 : T 116) (c118 : T 118) (c202 : T 202) (c203 : T 203) (c206 : T 206) (c271 : T 271) : compFn Tryz.prog 200 = some ⟨148, (s200 c116 c118 c202 c203 c206 c271).er, r200⟩ := by kernel_rfl
abbrev q200 (O : Ops Tryz.prog) (c116 : T 116) (c118 : T 118) (c202 : T 202) (c203 : T 203) (c206 : T 206) (c271 : T 271) := curF 5 (sfn O (s200 c116 c118 c202 c203 c206 c271) r200)
def g200 : { g // g = q200 } := by
  have h : q200 = q200 := rfl
  conv at h => rhs; reduce
  exact ⟨_, h.symm⟩
def C200 : T 200 := mkRun 5 (k200 C116 C118 C202 C203 C206 C271) (by decide) (g200.1 (theOps Tryz.prog) C116 C118 C202 C203 C206 C271) (by rw [g200.2])
/- 201: (*rampart/engine.Engine).same -/
def s201 (c100 : T 100) (c272 : T 272) : S := .seq (.reg [mK 4 (.b false)]) (.seq (.draw 0 [⟨[], [⟨0, ⟨some 5, .pure (.mv 0), none⟩, 1⟩, ⟨1, ⟨some 6, .pure (.mv 1), none⟩, 1⟩, ⟨2, ⟨some 7, .pure (.mv 1), none⟩, 0⟩, ⟨3, ⟨some 8, .pure (.nilCheck 7), none⟩, 0⟩, ⟨4, ⟨some 9, .pure (.fieldAddr 2 8), none⟩, 0⟩, ⟨5, ⟨some 10, .read (.ldN 13 9), none⟩, 0⟩, ⟨6, ⟨some 11, .pure (.mv 1), none⟩, 0⟩, ⟨7, ⟨some 12, .pure (.nilCheck 11), none⟩, 0⟩, ⟨8, ⟨some 13, .pure (.fieldAddr 15 12), none⟩, 0⟩, ⟨9, ⟨some 14, .read (.ldN 10 13), none⟩, 0⟩, ⟨10, ⟨some 15, .pure (.mv 1), none⟩, 0⟩, ⟨11, ⟨some 16, .pure (.nilCheck 15), none⟩, 0⟩, ⟨12, ⟨some 17, .pure (.fieldAddr 26 16), none⟩, 0⟩, ⟨13, ⟨some 18, .read (.ldN 7 17), none⟩, 0⟩, ⟨14, ⟨some 19, .pure (.mv 1), none⟩, 0⟩, ⟨15, ⟨some 20, .pure (.nilCheck 19), none⟩, 0⟩, ⟨16, ⟨some 21, .pure (.fieldAddr 33 20), none⟩, 0⟩, ⟨17, ⟨some 22, .read (.ld1 21), none⟩, 0⟩], some (mQ 23 272 [10, 14, 18, 22] c272)⟩, ⟨[], [], some (mQ 24 100 [5, 6, 23] c100)⟩, ⟨[], [⟨20, ⟨some 4, .pure (.mv 24), none⟩, 2⟩], none⟩]) .ret)
def r201 : List ARes := [.t 4]
theorem k201 (c100 : T 100) (c272 : T 272) : compFn Tryz.prog 201 = some ⟨25, (s201 c100 c272).er, r201⟩ := by kernel_rfl
abbrev q201 (O : Ops Tryz.prog) (c100 : T 100) (c272 : T 272) := curF 2 (sfn O (s201 c100 c272) r201)
def g201 : { g // g = q201 } := by
  have h : q201 = q201 := rfl
  conv at h => rhs; reduce
  exact ⟨_, h.symm⟩
def C201 : T 201 := mkRun 2 (k201 C100 C272) (by decide) (g201.1 (theOps Tryz.prog) C100 C272) (by rw [g201.2])
/- 119: (*rampart/engine.Engine).start -/
def s119 (c111 : T 111) (c112 : T 112) (c113 : T 113) (c114 : T 114) (c199 : T 199) (c200 : T 200) (c201 : T 201) : S := .seq (.reg [mK 4 (.b false)]) (.join [0, 1, 5] [] (.reg [mM 8 1, mU 9 (.nilCheck 8), mF 42 10 9, mL 11 10, mM 5 11]) (.join [0, 1, 5] [] (.draw 0 [⟨[], [⟨0, ⟨some 12, .pure (.mv 5), none⟩, 1⟩, ⟨1, ⟨some 13, .pure (.mv 1), none⟩, 1⟩, ⟨2, ⟨some 14, .pure (.nilCheck 13), none⟩, 1⟩, ⟨3, ⟨some 15, .pure (.fieldAddr 40 14), none⟩, 1⟩, ⟨4, ⟨some 16, .read (.ld1 15), none⟩, 1⟩, ⟨5, ⟨some 17, .pure (.mv 1), none⟩, 0⟩, ⟨6, ⟨some 18, .pure (.nilCheck 17), none⟩, 0⟩, ⟨7, ⟨some 19, .pure (.fieldAddr 26 18), none⟩, 0⟩, ⟨8, ⟨some 20, .pure (.fieldAddr 2 19), none⟩, 0⟩, ⟨9, ⟨some 21, .read (.ld1 20), none⟩, 0⟩, ⟨10, ⟨some 22, .pure (.bin .add 21 (.c (.i .u32 1))), none⟩, 0⟩, ⟨11, ⟨some 23, .pure (.mv 0), none⟩, 0⟩, ⟨12, ⟨some 24, .pure (.nilCheck 23), none⟩, 0⟩, ⟨13, ⟨some 25, .pure (.fieldAddr 0 24), none⟩, 0⟩, ⟨14, ⟨some 26, .pure (.fieldAddr 2 25), none⟩, 0⟩, ⟨15, ⟨some 27, .read (.ld1 26), none⟩, 0⟩, ⟨16, ⟨some 28, .pure (.mv 0), none⟩, 0⟩, ⟨17, ⟨some 29, .pure (.nilCheck 28), none⟩, 0⟩, ⟨18, ⟨some 30, .pure (.fieldAddr 0 29), none⟩, 0⟩, ⟨19, ⟨some 31, .pure (.fieldAddr 3 30), none⟩, 0⟩, ⟨20, ⟨some 32, .read (.ld1 31), none⟩, 0⟩, ⟨22, ⟨some 34, .pure (.nilCheck 12), none⟩, 1⟩, ⟨23, ⟨some 35, .pure (.fieldAddr 8 34), none⟩, 1⟩], some (mQ 33 199 [22, 27, 32] c199)⟩, ⟨[⟨some 16, .read (.ld1 15), none⟩], [⟨24, ⟨some 36, .pure (.idxAddrArr 2 1 35 16), none⟩, 1⟩], some (mZ (.st 1 36 33))⟩, ⟨[], [], none⟩]) (.join [0, 1, 5] [] (.draw 0 [⟨[], [⟨0, ⟨some 37, .pure (.mv 5), none⟩, 1⟩, ⟨1, ⟨some 38, .pure (.mv 1), none⟩, 1⟩, ⟨2, ⟨some 39, .pure (.nilCheck 38), none⟩, 1⟩, ⟨3, ⟨some 40, .pure (.fieldAddr 40 39), none⟩, 1⟩, ⟨4, ⟨some 41, .read (.ld1 40), none⟩, 1⟩, ⟨5, ⟨some 42, .pure (.mv 5), none⟩, 0⟩, ⟨6, ⟨some 43, .pure (.nilCheck 42), none⟩, 0⟩, ⟨7, ⟨some 44, .pure (.fieldAddr 5 43), none⟩, 0⟩, ⟨8, ⟨some 45, .read (.ld1 44), none⟩, 0⟩, ⟨9, ⟨some 46, .pure (.mv 5), none⟩, 0⟩, ⟨10, ⟨some 47, .pure (.mv 1), none⟩, 0⟩, ⟨11, ⟨some 48, .pure (.nilCheck 47), none⟩, 0⟩, ⟨12, ⟨some 49, .pure (.fieldAddr 40 48), none⟩, 0⟩, ⟨13, ⟨some 50, .read (.ld1 49), none⟩, 0⟩, ⟨14, ⟨some 51, .pure (.nilCheck 46), none⟩, 0⟩, ⟨15, ⟨some 52, .pure (.fieldAddr 6 51), none⟩, 0⟩, ⟨16, ⟨some 53, .pure (.idxAddrArr 2 1 52 50), none⟩, 0⟩, ⟨17, ⟨some 54, .read (.ld1 53), none⟩, 0⟩, ⟨18, ⟨some 55, .pure (.mv 0), none⟩, 0⟩, ⟨19, ⟨some 56, .pure (.nilCheck 55), none⟩, 0⟩, ⟨20, ⟨some 57, .pure (.fieldAddr 0 56), none⟩, 0⟩, ⟨21, ⟨some 58, .pure (.fieldAddr 4 57), none⟩, 0⟩, ⟨22, ⟨some 59, .read (.ld1 58), none⟩, 0⟩, ⟨24, ⟨some 61, .pure (.nilCheck 37), none⟩, 1⟩, ⟨25, ⟨some 62, .pure (.fieldAddr 10 61), none⟩, 1⟩], some (mQ 60 111 [45, 54, 59] c111)⟩, ⟨[⟨some 41, .read (.ld1 40), none⟩], [⟨26, ⟨some 63, .pure (.idxAddrArr 2 1 62 41), none⟩, 1⟩], some (mZ (.st 1 63 60))⟩, ⟨[], [], none⟩]) (.seq (.draw 0 [⟨[], [⟨0, ⟨some 65, .pure (.mv 5), none⟩, 0⟩, ⟨1, ⟨some 66, .pure (.mv 1), none⟩, 0⟩, ⟨2, ⟨some 67, .pure (.nilCheck 66), none⟩, 0⟩, ⟨3, ⟨some 68, .pure (.fieldAddr 40 67), none⟩, 0⟩, ⟨4, ⟨some 69, .read (.ld1 68), none⟩, 0⟩, ⟨5, ⟨some 70, .pure (.nilCheck 65), none⟩, 0⟩, ⟨6, ⟨some 71, .pure (.fieldAddr 10 70), none⟩, 0⟩, ⟨7, ⟨some 72, .pure (.idxAddrArr 2 1 71 69), none⟩, 0⟩, ⟨8, ⟨some 73, .read (.ld1 72), none⟩, 0⟩], some (mQ 74 112 [73] c112)⟩, ⟨[], [⟨10, ⟨some 64, .pure (.mv 74), none⟩, 1⟩, ⟨11, ⟨some 75, .pure (.extract 0 64), none⟩, 1⟩, ⟨12, ⟨some 76, .pure (.extract 1 64), none⟩, 1⟩, ⟨13, ⟨some 6, .pure (.mv 75), none⟩, 1⟩, ⟨14, ⟨some 7, .pure (.mv 76), none⟩, 1⟩], none⟩]) (.seq (.reg [mM 77 0, mM 78 1, mM 79 6, mQ 80 113 [77, 78, 79] c113]) (.seq (.seq (.reg [mM 81 7, mQ 82 114 [81, .c 1] c114]) (.cond 82 (.seq (.reg [mM 83 0, mM 84 1, mM 85 7, mU 86 (.build [0, 0, .s [], .b false] []), mQ 87 200 [83, 84, 85, .c 0, 86] c200]) (.seq (.reg [mK 4 (.b false)]) .ret)) .skip)) (.seq (.reg [mM 88 0, mM 89 1, mQ 90 201 [88, 89] c201, mM 4 90]) .ret)))))))
def r119 : List ARes := [.t 4]
theorem k119 (c111 : T 111) (c112 : T 112) (c113 : T 113) (c114 : T 114) (c199 : T 199) (c200 : T 200) (c201 : T 201) : compFn Tryz.prog 119 = some ⟨91, (s119 c111 c112 c113 c114 c199 c200 c201).er, r119⟩ := by kernel_rfl
abbrev q119 (O : Ops Tryz.prog) (c111 : T 111) (c112 : T 112) (c113 : T 113) (c114 : T 114) (c199 : T 199) (c200 : T 200) (c201 : T 201) := curF 2 (sfn O (s119 c111 c112 c113 c114 c199 c200 c201) r119)
def g119 : { g // g = q119 } := by
  have h : q119 = q119 := rfl
  conv at h => rhs; reduce
  exact ⟨_, h.symm⟩
def C119 : T 119 := mkRun 2 (k119 C111 C112 C113 C114 C199 C200 C201) (by decide) (g119.1 (theOps Tryz.prog) C111 C112 C113 C114 C199 C200 C201) (by rw [g119.2])
/- 120: (*rampart/engine.packet).flags -/
def s120 : S := .seq (.reg [mK 4 (.b false)]) (.seq (.reg [mM 5 0, mU 6 (.nilCheck 5), mF 26 7 6, mF 4 8 7, mL 9 8, mM 10 1, mB .and 11 9 10, mB .neq 12 11 (.c 0), mM 4 12]) .ret)
def r120 : List ARes := [.t 4]
theorem k120 : compFn Tryz.prog 120 = some ⟨13, (s120).er, r120⟩ := by kernel_rfl
abbrev q120 (O : Ops Tryz.prog) := curF 2 (sfn O (s120) r120)
def g120 : { g // g = q120 } := by
  have h : q120 = q120 := rfl
  conv at h => rhs; reduce
  exact ⟨_, h.symm⟩
def C120 : T 120 := mkRun 2 (k120) (by decide) (g120.1 (theOps Tryz.prog)) (by rw [g120.2])
/- 273: (*rampart/table.Table).Remove -/
def s273 (c130 : T 130) : S := .seq (.reg [mN 3 (.box 1), mK 4 (.b false)]) (.seq (.reg [mM 5 0, mU 6 (.mkFunc 327 [] [3]), mQ 7 130 [5, 6] c130, mU 8 (.lenSl 7), mB .gtr 9 8 (.c 0), mM 4 9]) .ret)
def r273 : List ARes := [.t 4]
theorem k273 (c130 : T 130) : compFn Tryz.prog 273 = some ⟨10, (s273 c130).er, r273⟩ := by kernel_rfl
abbrev q273 (O : Ops Tryz.prog) (c130 : T 130) := curF 2 (sfn O (s273 c130) r273)
def g273 : { g // g = q273 } := by
  have h : q273 = q273 := rfl
  conv at h => rhs; reduce
  exact ⟨_, h.symm⟩
def C273 : T 273 := mkRun 2 (k273 C130) (by decide) (g273.1 (theOps Tryz.prog) C130) (by rw [g273.2])
/- 204: (*rampart/engine.Engine).remove -/
def s204 (c273 : T 273) : S := .join [0, 1] [] (.draw 0 [⟨[], [⟨0, ⟨some 4, .pure (.mv 0), none⟩, 0⟩, ⟨1, ⟨some 5, .pure (.nilCheck 4), none⟩, 0⟩, ⟨2, ⟨some 6, .pure (.fieldAddr 12 5), none⟩, 0⟩, ⟨3, ⟨some 7, .read (.ld1 6), none⟩, 0⟩, ⟨4, ⟨some 8, .pure (.mv 1), none⟩, 0⟩, ⟨5, ⟨some 9, .pure (.nilCheck 8), none⟩, 0⟩, ⟨6, ⟨some 10, .pure (.fieldAddr 39 9), none⟩, 0⟩, ⟨7, ⟨some 11, .read (.ld1 10), none⟩, 0⟩], some (mQ 12 273 [7, 11] c273)⟩, ⟨[], [], none⟩]) (.draw 0 [⟨[], [⟨0, ⟨some 13, .pure (.mv 0), none⟩, 0⟩, ⟨1, ⟨some 14, .pure (.nilCheck 13), none⟩, 0⟩, ⟨2, ⟨some 15, .pure (.fieldAddr 14 14), none⟩, 0⟩, ⟨3, ⟨some 16, .read (.ld1 15), none⟩, 0⟩, ⟨4, ⟨some 17, .pure (.mv 1), none⟩, 0⟩, ⟨5, ⟨some 18, .pure (.nilCheck 17), none⟩, 0⟩, ⟨6, ⟨some 19, .pure (.fieldAddr 39 18), none⟩, 0⟩, ⟨7, ⟨some 20, .read (.ld1 19), none⟩, 0⟩], some (mZ (.del (.one .i) 16 20))⟩, ⟨[], [], none⟩])
def r204 : List ARes := []
theorem k204 (c273 : T 273) : compFn Tryz.prog 204 = some ⟨21, (s204 c273).er, r204⟩ := by kernel_rfl
abbrev q204 (O : Ops Tryz.prog) (c273 : T 273) := curF 2 (sfn O (s204 c273) r204)
def g204 : { g // g = q204 } := by
  have h : q204 = q204 := rfl
  conv at h => rhs; reduce
  exact ⟨_, h.symm⟩
def C204 : T 204 := mkRun 2 (k204 C273) (by decide) (g204.1 (theOps Tryz.prog) C273) (by rw [g204.2])
/- 121: (*rampart/engine.Engine).reset -/
def s121 (c98 : T 98) (c120 : T 120) (c201 : T 201) (c202 : T 202) (c203 : T 203) (c204 : T 204) : S := .seq (.reg [mK 4 (.b false)]) (.join [0, 1, 5, 6] [] (.draw 0 [⟨[], [⟨0, ⟨some 8, .pure (.mv 1), none⟩, 0⟩, ⟨1, ⟨some 9, .pure (.nilCheck 8), none⟩, 0⟩, ⟨2, ⟨some 10, .pure (.fieldAddr 42 9), none⟩, 0⟩, ⟨3, ⟨some 11, .read (.ld1 10), none⟩, 0⟩, ⟨4, ⟨some 12, .pure (.mv 1), none⟩, 0⟩, ⟨5, ⟨some 13, .pure (.nilCheck 12), none⟩, 0⟩, ⟨6, ⟨some 14, .pure (.fieldAddr 40 13), none⟩, 0⟩, ⟨7, ⟨some 15, .read (.ld1 14), none⟩, 0⟩, ⟨8, ⟨some 16, .pure (.nilCheck 11), none⟩, 0⟩, ⟨9, ⟨some 17, .pure (.fieldAddr 8 16), none⟩, 0⟩, ⟨10, ⟨some 18, .pure (.idxAddrArr 2 1 17 15), none⟩, 0⟩, ⟨11, ⟨some 19, .read (.ld1 18), none⟩, 0⟩, ⟨12, ⟨some 20, .pure (.mv 1), none⟩, 0⟩, ⟨13, ⟨some 21, .pure (.nilCheck 20), none⟩, 0⟩, ⟨14, ⟨some 22, .pure (.fieldAddr 42 21), none⟩, 0⟩, ⟨15, ⟨some 23, .read (.ld1 22), none⟩, 0⟩, ⟨16, ⟨some 24, .pure (.mv 1), none⟩, 0⟩, ⟨17, ⟨some 25, .pure (.nilCheck 24), none⟩, 0⟩, ⟨18, ⟨some 26, .pure (.fieldAddr 40 25), none⟩, 0⟩, ⟨19, ⟨some 27, .read (.ld1 26), none⟩, 0⟩, ⟨20, ⟨some 28, .pure (.bin .sub (.c 1) 27), none⟩, 0⟩, ⟨21, ⟨some 29, .pure (.nilCheck 23), none⟩, 0⟩, ⟨22, ⟨some 30, .pure (.fieldAddr 8 29), none⟩, 0⟩, ⟨23, ⟨some 31, .pure (.idxAddrArr 2 1 30 28), none⟩, 0⟩, ⟨24, ⟨some 32, .read (.ld1 31), none⟩, 0⟩, ⟨25, ⟨some 5, .pure (.mv 19), none⟩, 0⟩, ⟨26, ⟨some 6, .pure (.mv 32), none⟩, 0⟩], none⟩]) (.join [0, 1, 5, 6, 7] [] (.reg [mM 33 1, mU 34 (.nilCheck 33), mF 33 35 34, mL 36 35, mB .eql 37 36 (.c (.s [])), mM 38 37, (mM 39 1).g 38 true, (mQ 40 120 [39, .c 2] c120).g 38 true, (mU 41 (.un .not 40)).g 38 true, mU 42 (.pick 38 41 (.c (.b false))), mM 7 42]) (.join [0, 1, 7] [] (.block 0 (.seq (.reg [mM 44 5, mR 45 (.peq true 44 (.c (.p none))), mM 43 45]) (.cond 43 (.draw 0 [⟨[], [⟨0, ⟨some 46, .pure (.mv 7), none⟩, 0⟩, ⟨1, ⟨some 47, .pure (.mv 46), none⟩, 0⟩, ⟨2, ⟨some 48, .pure (.mv 1), some (47, true)⟩, 2⟩, ⟨3, ⟨some 49, .pure (.nilCheck 48), some (47, true)⟩, 2⟩, ⟨4, ⟨some 50, .pure (.fieldAddr 26 49), some (47, true)⟩, 2⟩, ⟨5, ⟨some 51, .pure (.fieldAddr 2 50), some (47, true)⟩, 2⟩, ⟨6, ⟨some 52, .read (.ld1 51), some (47, true)⟩, 2⟩, ⟨7, ⟨some 53, .pure (.mv 5), some (47, true)⟩, 1⟩, ⟨8, ⟨some 54, .pure (.mv 5), some (47, true)⟩, 0⟩], some ((mQ 55 203 [54] c203).g 47 true)⟩, ⟨[⟨some 52, .read (.ld1 51), some (47, true)⟩], [], some ((mQ 56 202 [53, 55] c202).g 47 true)⟩, ⟨[⟨some 52, .read (.ld1 51), some (47, true)⟩], [⟨11, ⟨some 57, .pure (.bin .eql 52 56), some (47, true)⟩, 2⟩, ⟨12, ⟨some 58, .pure (.pick 47 57 (.c (.b false))), none⟩, 2⟩, ⟨13, ⟨some 7, .pure (.mv 58), none⟩, 2⟩], none⟩]) (.seq (.reg [mM 60 6, mR 61 (.peq true 60 (.c (.p none))), mM 59 61]) (.cond 59 (.draw 0 [⟨[], [⟨0, ⟨some 62, .pure (.mv 7), none⟩, 0⟩, ⟨1, ⟨some 63, .pure (.mv 62), none⟩, 0⟩, ⟨2, ⟨some 64, .pure (.mv 1), some (63, true)⟩, 0⟩], some ((mQ 65 120 [64, .c 16] c120).g 63 true)⟩, ⟨[], [⟨4, ⟨some 66, .pure (.pick 63 65 (.c (.b false))), none⟩, 1⟩, ⟨5, ⟨some 67, .pure (.mv 66), none⟩, 1⟩, ⟨6, ⟨some 68, .pure (.mv 1), some (67, true)⟩, 3⟩, ⟨7, ⟨some 69, .pure (.nilCheck 68), some (67, true)⟩, 3⟩, ⟨8, ⟨some 70, .pure (.fieldAddr 26 69), some (67, true)⟩, 3⟩, ⟨9, ⟨some 71, .pure (.fieldAddr 3 70), some (67, true)⟩, 3⟩, ⟨10, ⟨some 72, .read (.ld1 71), some (67, true)⟩, 3⟩, ⟨11, ⟨some 73, .pure (.mv 6), some (67, true)⟩, 2⟩, ⟨12, ⟨some 74, .pure (.mv 6), some (67, true)⟩, 1⟩], some ((mQ 75 203 [74] c203).g 67 true)⟩, ⟨[⟨some 72, .read (.ld1 71), some (67, true)⟩], [], some ((mQ 76 202 [73, 75] c202).g 67 true)⟩, ⟨[⟨some 72, .read (.ld1 71), some (67, true)⟩], [⟨15, ⟨some 77, .pure (.bin .eql 72 76), some (67, true)⟩, 3⟩, ⟨16, ⟨some 78, .pure (.pick 67 77 (.c (.b false))), none⟩, 3⟩, ⟨17, ⟨some 7, .pure (.mv 78), none⟩, 3⟩], none⟩]) .skip))))) (.seq (.seq (.reg [mM 79 7, mU 80 (.un .not 79)]) (.cond 80 (.seq (.reg [mM 81 0, mU 82 (.nilCheck 81), mF 15 83 82, mF 5 84 83, mQ 85 98 [84] c98, mM 4 85]) .ret) .skip)) (.seq (.reg [mM 86 0, mM 87 1, mQ 88 204 [86, 87] c204]) (.seq (.reg [mM 89 0, mM 90 1, mQ 91 201 [89, 90] c201, mM 4 91]) .ret))))))
def r121 : List ARes := [.t 4]
theorem k121 (c98 : T 98) (c120 : T 120) (c201 : T 201) (c202 : T 202) (c203 : T 203) (c204 : T 204) : compFn Tryz.prog 121 = some ⟨92, (s121 c98 c120 c201 c202 c203 c204).er, r121⟩ := by kernel_rfl
abbrev q121 (O : Ops Tryz.prog) (c98 : T 98) (c120 : T 120) (c201 : T 201) (c202 : T 202) (c203 : T 203) (c204 : T 204) := curF 2 (sfn O (s121 c98 c120 c201 c202 c203 c204) r121)
def g121 : { g // g = q121 } := by
  have h : q121 = q121 := rfl
  conv at h => rhs; reduce
  exact ⟨_, h.symm⟩
def C121 : T 121 := mkRun 2 (k121 C98 C120 C201 C202 C203 C204) (by decide) (g121.1 (theOps Tryz.prog) C98 C120 C201 C202 C203 C204) (by rw [g121.2])
/- 122: (*rampart/engine.Engine).syn -/
def s122 (c98 : T 98) (c119 : T 119) (c120 : T 120) (c201 : T 201) (c202 : T 202) : S := .seq (.reg [mK 4 (.b false)]) (.join [0, 1, 5, 6] [] (.draw 0 [⟨[], [⟨0, ⟨some 8, .pure (.mv 1), none⟩, 0⟩, ⟨1, ⟨some 9, .pure (.nilCheck 8), none⟩, 0⟩, ⟨2, ⟨some 10, .pure (.fieldAddr 42 9), none⟩, 0⟩, ⟨3, ⟨some 11, .read (.ld1 10), none⟩, 0⟩, ⟨4, ⟨some 12, .pure (.mv 1), none⟩, 0⟩, ⟨5, ⟨some 13, .pure (.nilCheck 12), none⟩, 0⟩, ⟨6, ⟨some 14, .pure (.fieldAddr 40 13), none⟩, 0⟩, ⟨7, ⟨some 15, .read (.ld1 14), none⟩, 0⟩, ⟨8, ⟨some 16, .pure (.nilCheck 11), none⟩, 0⟩, ⟨9, ⟨some 17, .pure (.fieldAddr 8 16), none⟩, 0⟩, ⟨10, ⟨some 18, .pure (.idxAddrArr 2 1 17 15), none⟩, 0⟩, ⟨11, ⟨some 19, .read (.ld1 18), none⟩, 0⟩, ⟨12, ⟨some 20, .pure (.mv 1), none⟩, 0⟩, ⟨13, ⟨some 21, .pure (.nilCheck 20), none⟩, 0⟩, ⟨14, ⟨some 22, .pure (.fieldAddr 42 21), none⟩, 0⟩, ⟨15, ⟨some 23, .read (.ld1 22), none⟩, 0⟩, ⟨16, ⟨some 24, .pure (.mv 1), none⟩, 0⟩, ⟨17, ⟨some 25, .pure (.nilCheck 24), none⟩, 0⟩, ⟨18, ⟨some 26, .pure (.fieldAddr 40 25), none⟩, 0⟩, ⟨19, ⟨some 27, .read (.ld1 26), none⟩, 0⟩, ⟨20, ⟨some 28, .pure (.bin .sub (.c 1) 27), none⟩, 0⟩, ⟨21, ⟨some 29, .pure (.nilCheck 23), none⟩, 0⟩, ⟨22, ⟨some 30, .pure (.fieldAddr 8 29), none⟩, 0⟩, ⟨23, ⟨some 31, .pure (.idxAddrArr 2 1 30 28), none⟩, 0⟩, ⟨24, ⟨some 32, .read (.ld1 31), none⟩, 0⟩, ⟨25, ⟨some 5, .pure (.mv 19), none⟩, 0⟩, ⟨26, ⟨some 6, .pure (.mv 32), none⟩, 0⟩], none⟩]) (.seq (.reg [mM 33 1, mQ 34 120 [33, .c 16] c120, mM 7 34]) (.join [0] [] (.block 0 (.join [0, 1, 5, 6, 35] [] (.reg [mM 36 1, mU 37 (.nilCheck 36), mF 33 38 37, mL 39 38, mB .neq 40 39 (.c (.s [])), mM 41 40, (mM 42 1).g 41 false, (mQ 43 120 [42, .c 1] c120).g 41 false, mU 44 (.pick 41 (.c (.b true)) 43), mM 45 44, (mM 46 7).g 45 false, (mM 47 1).g 45 false, (mU 48 (.nilCheck 47)).g 45 false, (mF 40 49 48).g 45 false, (mL 50 49).g 45 false, (mB .eql 51 50 (.c 1)).g 45 false, (mU 52 (.eqB true 46 51)).g 45 false, mU 53 (.pick 45 (.c (.b true)) 52), mM 35 53]) (.cond 35 .skip (.join [0, 1, 5, 54] [] (.draw 0 [⟨[], [⟨0, ⟨some 55, .pure (.mv 5), none⟩, 0⟩, ⟨1, ⟨some 56, .read (.peq false 55 (.c (.p none))), none⟩, 0⟩, ⟨2, ⟨some 57, .pure (.mv 56), none⟩, 0⟩, ⟨3, ⟨some 58, .pure (.mv 6), some (57, true)⟩, 0⟩, ⟨4, ⟨some 59, .read (.peq true 58 (.c (.p none))), some (57, true)⟩, 0⟩, ⟨5, ⟨some 60, .pure (.pick 57 59 (.c (.b false))), none⟩, 0⟩, ⟨6, ⟨some 61, .pure (.mv 60), none⟩, 0⟩, ⟨7, ⟨some 62, .pure (.mv 1), some (61, true)⟩, 1⟩, ⟨8, ⟨some 63, .pure (.nilCheck 62), some (61, true)⟩, 1⟩, ⟨9, ⟨some 64, .pure (.fieldAddr 26 63), some (61, true)⟩, 1⟩, ⟨10, ⟨some 65, .pure (.fieldAddr 3 64), some (61, true)⟩, 1⟩, ⟨11, ⟨some 66, .read (.ld1 65), some (61, true)⟩, 1⟩, ⟨12, ⟨some 67, .pure (.mv 6), some (61, true)⟩, 0⟩], some ((mQ 68 202 [67, .c 0] c202).g 61 true)⟩, ⟨[⟨some 66, .read (.ld1 65), some (61, true)⟩], [⟨14, ⟨some 69, .pure (.bin .eql 66 68), some (61, true)⟩, 1⟩, ⟨15, ⟨some 70, .pure (.pick 61 69 (.c (.b false))), none⟩, 1⟩, ⟨16, ⟨some 54, .pure (.mv 70), none⟩, 1⟩], none⟩]) (.cond 54 (.seq (.reg [mM 71 0, mM 72 1, mQ 73 119 [71, 72] c119, mM 4 73]) .ret) (.seq (.draw 0 [⟨[], [⟨0, ⟨some 75, .pure (.mv 5), none⟩, 0⟩, ⟨1, ⟨some 76, .read (.peq true 75 (.c (.p none))), none⟩, 0⟩, ⟨2, ⟨some 77, .pure (.mv 76), none⟩, 0⟩, ⟨3, ⟨some 78, .pure (.mv 1), some (77, true)⟩, 1⟩, ⟨4, ⟨some 79, .pure (.nilCheck 78), some (77, true)⟩, 1⟩, ⟨5, ⟨some 80, .pure (.fieldAddr 26 79), some (77, true)⟩, 1⟩, ⟨6, ⟨some 81, .pure (.fieldAddr 2 80), some (77, true)⟩, 1⟩, ⟨7, ⟨some 82, .read (.ld1 81), some (77, true)⟩, 1⟩, ⟨8, ⟨some 83, .pure (.bin .add 82 (.c (.i .u32 1))), some (77, true)⟩, 1⟩, ⟨9, ⟨some 84, .pure (.mv 5), some (77, true)⟩, 0⟩], some ((mQ 85 202 [84, .c 0] c202).g 77 true)⟩, ⟨[⟨some 82, .read (.ld1 81), some (77, true)⟩], [⟨11, ⟨some 86, .pure (.bin .eql 83 85), some (77, true)⟩, 1⟩, ⟨12, ⟨some 87, .pure (.pick 77 86 (.c (.b false))), none⟩, 1⟩, ⟨13, ⟨some 74, .pure (.mv 87), none⟩, 1⟩], none⟩]) (.cond 74 (.seq (.reg [mM 88 0, mM 89 1, mQ 90 201 [88, 89] c201, mM 4 90]) .ret) .skip))))))) (.seq (.reg [mM 91 0, mU 92 (.nilCheck 91), mF 15 93 92, mF 5 94 93, mQ 95 98 [94] c98, mM 4 95]) .ret))))
def r122 : List ARes := [.t 4]
theorem k122 (c98 : T 98) (c119 : T 119) (c120 : T 120) (c201 : T 201) (c202 : T 202) : compFn Tryz.prog 122 = some ⟨96, (s122 c98 c119 c120 c201 c202).er, r122⟩ := by kernel_rfl
abbrev q122 (O : Ops Tryz.prog) (c98 : T 98) (c119 : T 119) (c120 : T 120) (c201 : T 201) (c202 : T 202) := curF 2 (sfn O (s122 c98 c119 c120 c201 c202) r122)
def g122 : { g // g = q122 } := by
  have h : q122 = q122 := rfl
  conv at h => rhs; reduce
  exact ⟨_, h.symm⟩
def C122 : T 122 := mkRun 2 (k122 C98 C119 C120 C201 C202) (by decide) (g122.1 (theOps Tryz.prog) C98 C119 C120 C201 C202) (by rw [g122.2])
/- 291: rampart/seq.to[int,int32] -/
def s291 : S := .seq (.reg [mK 2 0]) (.seq (.reg [mM 3 0, mU 4 (.conv .i64 3), mM 2 4]) .ret)
def r291 : List ARes := [.t 2]
theorem k291 : compFn Tryz.prog 291 = some ⟨5, (s291).er, r291⟩ := by kernel_rfl
abbrev q291 (O : Ops Tryz.prog) := curF 1 (sfn O (s291) r291)
def g291 : { g // g = q291 } := by
  have h : q291 = q291 := rfl
  conv at h => rhs; reduce
  exact ⟨_, h.symm⟩
def C291 : T 291 := mkRun 1 (k291) (by decide) (g291.1 (theOps Tryz.prog)) (by rw [g291.2])
/- 292: rampart/seq.to[int32,uint32] -/
def s292 : S := .seq (.reg [mK 2 (.i .i32 0)]) (.seq (.reg [mM 3 0, mU 4 (.conv .i32 3), mM 2 4]) .ret)
def r292 : List ARes := [.t 2]
theorem k292 : compFn Tryz.prog 292 = some ⟨5, (s292).er, r292⟩ := by kernel_rfl
abbrev q292 (O : Ops Tryz.prog) := curF 1 (sfn O (s292) r292)
def g292 : { g // g = q292 } := by
  have h : q292 = q292 := rfl
  conv at h => rhs; reduce
  exact ⟨_, h.symm⟩
def C292 : T 292 := mkRun 1 (k292) (by decide) (g292.1 (theOps Tryz.prog)) (by rw [g292.2])
/- 224: rampart/seq.Diff -/
def s224 (c291 : T 291) (c292 : T 292) : S := .seq (.reg [mK 4 0]) (.seq (.reg [mM 5 0, mM 6 1, mB .sub 7 5 6, mQ 8 292 [7] c292, mQ 9 291 [8] c291, mM 4 9]) .ret)
def r224 : List ARes := [.t 4]
theorem k224 (c291 : T 291) (c292 : T 292) : compFn Tryz.prog 224 = some ⟨10, (s224 c291 c292).er, r224⟩ := by kernel_rfl
abbrev q224 (O : Ops Tryz.prog) (c291 : T 291) (c292 : T 292) := curF 2 (sfn O (s224 c291 c292) r224)
def g224 : { g // g = q224 } := by
  have h : q224 = q224 := rfl
  conv at h => rhs; reduce
  exact ⟨_, h.symm⟩
def C224 : T 224 := mkRun 2 (k224 C291 C292) (by decide) (g224.1 (theOps Tryz.prog) C291 C292) (by rw [g224.2])
/- 148: rampart/seq.Place -/
def s148 (c224 : T 224) (c225 : T 225) : S := .seq (.reg [mK 6 0]) (.seq (.reg [mM 7 2, mU 8 (.mxmn false [7, .c 1099511627776]), mU 9 (.mxmn true [.c 0, 8]), mM 2 9]) (.seq (.reg [mM 10 2, mM 11 1, mM 12 0, mM 13 2, mQ 14 225 [12, 13] c225, mQ 15 224 [11, 14] c224, mB .add 16 10 15, mM 6 16]) .ret))
def r148 : List ARes := [.t 6]
theorem k148 (c224 : T 224) (c225 : T 225) : compFn Tryz.prog 148 = some ⟨17, (s148 c224 c225).er, r148⟩ := by kernel_rfl
abbrev q148 (O : Ops Tryz.prog) (c224 : T 224) (c225 : T 225) := curF 3 (sfn O (s148 c224 c225) r148)
def g148 : { g // g = q148 } := by
  have h : q148 = q148 := rfl
  conv at h => rhs; reduce
  exact ⟨_, h.symm⟩
def C148 : T 148 := mkRun 3 (k148 C224 C225) (by decide) (g148.1 (theOps Tryz.prog) C224 C225) (by rw [g148.2])
/- 274: (*rampart/dir.Dir).behind -/
def s274 : S := .seq (.reg [mK 4 (.b false)]) (.seq (.seq (.reg [mM 6 0, mU 7 (.nilCheck 6), mF 4 8 7, mL 9 8, mY 10 (.rangeM 9)]) (.block 0 (.loop [] [1, 10] (.seq (.reg [mY 11 (.nextM 10), mU 12 (.extract 0 11)]) (.seq (.cond 12 .skip (.exit 0)) (.block 1 (.seq (.reg [mY 13 (.entryM 10), mU 14 (.extract 0 13), mM 5 14]) (.seq (.reg [mM 15 5, mM 16 1, mB .geq 17 15 16]) (.cond 17 (.seq (.reg [mK 4 (.b true)]) .ret) .skip))))))))) (.seq (.reg [mK 4 (.b false)]) .ret))
def r274 : List ARes := [.t 4]
theorem k274 : compFn Tryz.prog 274 = some ⟨18, (s274).er, r274⟩ := by kernel_rfl
abbrev q274 (O : Ops Tryz.prog) := curF 2 (sfn O (s274) r274)
def g274 : { g // g = q274 } := by
  have h : q274 = q274 := rfl
  conv at h => rhs; reduce
  exact ⟨_, h.symm⟩
def C274 : T 274 := mkRun 2 (k274) (by decide) (g274.1 (theOps Tryz.prog)) (by rw [g274.2])
/- 275: (*rampart/dir.Dir).release -/
def s275 : S := .seq (.reg [mK 2 (.s [])]) (.seq (.reg [mK 3 (.sl 0 none 0 0)]) (.join [0, 3] [] (.block 0 (.loop [3] [0] (.block 1 (.join [0, 3, 4, 5] [] (.draw 0 [⟨[], [⟨0, ⟨some 7, .pure (.mv 0), none⟩, 0⟩, ⟨1, ⟨some 8, .pure (.nilCheck 7), none⟩, 0⟩, ⟨2, ⟨some 9, .pure (.fieldAddr 4 8), none⟩, 0⟩, ⟨3, ⟨some 10, .read (.ld1 9), none⟩, 0⟩, ⟨4, ⟨some 11, .pure (.mv 0), none⟩, 0⟩, ⟨5, ⟨some 12, .pure (.nilCheck 11), none⟩, 0⟩, ⟨6, ⟨some 13, .pure (.fieldAddr 3 12), none⟩, 0⟩, ⟨7, ⟨some 14, .read (.ld1 13), none⟩, 0⟩, ⟨8, ⟨some 15, .read (.lookup (.one .i) (.i .u8 0) true 10 14), none⟩, 0⟩, ⟨9, ⟨some 6, .pure (.mv 15), none⟩, 0⟩, ⟨10, ⟨some 16, .pure (.extract 0 6), none⟩, 0⟩, ⟨11, ⟨some 17, .pure (.extract 1 6), none⟩, 0⟩, ⟨12, ⟨some 4, .pure (.mv 16), none⟩, 0⟩, ⟨13, ⟨some 5, .pure (.mv 17), none⟩, 0⟩], none⟩]) (.join [0, 3, 4] [] (.seq (.draw 0 [⟨[], [⟨0, ⟨some 18, .pure (.mv 5), none⟩, 0⟩, ⟨1, ⟨some 19, .pure (.un .not 18), none⟩, 0⟩, ⟨2, ⟨some 20, .pure (.mv 19), none⟩, 0⟩, ⟨3, ⟨some 21, .pure (.mv 0), some (20, false)⟩, 0⟩, ⟨4, ⟨some 22, .pure (.nilCheck 21), some (20, false)⟩, 0⟩, ⟨5, ⟨some 23, .pure (.fieldAddr 3 22), some (20, false)⟩, 0⟩, ⟨6, ⟨some 24, .read (.ld1 23), some (20, false)⟩, 0⟩, ⟨7, ⟨some 25, .pure (.mv 0), some (20, false)⟩, 0⟩, ⟨8, ⟨some 26, .pure (.nilCheck 25), some (20, false)⟩, 0⟩, ⟨9, ⟨some 27, .pure (.fieldAddr 6 26), some (20, false)⟩, 0⟩, ⟨10, ⟨some 28, .read (.ld1 27), some (20, false)⟩, 0⟩, ⟨11, ⟨some 29, .pure (.bin .eql 24 28), some (20, false)⟩, 0⟩, ⟨12, ⟨some 30, .pure (.pick 20 (.c (.b true)) 29), none⟩, 0⟩], none⟩]) (.cond 30 (.exit 0) .skip)) (.seq (.draw 0 [⟨[], [⟨0, ⟨some 31, .pure (.mv 0), none⟩, 0⟩, ⟨1, ⟨some 32, .pure (.nilCheck 31), none⟩, 0⟩, ⟨2, ⟨some 33, .pure (.fieldAddr 4 32), none⟩, 0⟩, ⟨3, ⟨some 34, .read (.ld1 33), none⟩, 0⟩, ⟨4, ⟨some 35, .pure (.mv 0), none⟩, 0⟩, ⟨5, ⟨some 36, .pure (.nilCheck 35), none⟩, 0⟩, ⟨6, ⟨some 37, .pure (.fieldAddr 3 36), none⟩, 0⟩, ⟨7, ⟨some 38, .read (.ld1 37), none⟩, 0⟩], some (mZ (.del (.one .i) 34 38))⟩, ⟨[], [], none⟩]) (.seq (.reg [mM 39 3, mM 40 4, mN 41 (.bslice 1 1 [.i .u8 0] [(0, (1, 40))]), mY 42 (.append 1 1 39 41), mM 3 42]) (.reg [mM 43 0, mU 44 (.nilCheck 43), mF 3 45 44, mL 46 45, mB .add 47 46 (.c 1), mU 48 (.nilCheck 43), mF 3 49 48, mZ (.st 1 49 47)])))))))) (.join [0, 3] [] (.draw 0 [⟨[], [⟨0, ⟨some 50, .pure (.mv 0), none⟩, 0⟩, ⟨1, ⟨some 51, .pure (.nilCheck 50), none⟩, 0⟩, ⟨2, ⟨some 52, .pure (.fieldAddr 5 51), none⟩, 0⟩, ⟨3, ⟨some 53, .read (.ld1 52), none⟩, 0⟩, ⟨4, ⟨some 54, .pure (.mv 3), none⟩, 0⟩, ⟨5, ⟨some 55, .read (.b2s 54), none⟩, 0⟩, ⟨6, ⟨some 56, .pure (.bin .add 53 55), none⟩, 0⟩, ⟨7, ⟨some 57, .pure (.nilCheck 50), none⟩, 0⟩, ⟨8, ⟨some 58, .pure (.fieldAddr 5 57), none⟩, 0⟩], some (mZ (.st 1 58 56))⟩, ⟨[], [], none⟩]) (.seq (.draw 0 [⟨[], [⟨0, ⟨some 59, .pure (.mv 0), none⟩, 0⟩, ⟨1, ⟨some 60, .pure (.mv 0), none⟩, 0⟩, ⟨2, ⟨some 61, .pure (.nilCheck 60), none⟩, 0⟩, ⟨3, ⟨some 62, .pure (.fieldAddr 5 61), none⟩, 0⟩, ⟨4, ⟨some 63, .read (.ld1 62), none⟩, 0⟩, ⟨5, ⟨some 64, .pure (.mv 0), none⟩, 0⟩, ⟨6, ⟨some 65, .pure (.nilCheck 64), none⟩, 0⟩, ⟨7, ⟨some 66, .pure (.fieldAddr 5 65), none⟩, 0⟩, ⟨8, ⟨some 67, .read (.ld1 66), none⟩, 0⟩, ⟨9, ⟨some 68, .pure (.lenS 67), none⟩, 0⟩, ⟨10, ⟨some 69, .pure (.mv 0), none⟩, 0⟩, ⟨11, ⟨some 70, .pure (.nilCheck 69), none⟩, 0⟩, ⟨12, ⟨some 71, .pure (.fieldAddr 2 70), none⟩, 0⟩, ⟨13, ⟨some 72, .read (.ld1 71), none⟩, 0⟩, ⟨14, ⟨some 73, .pure (.bin .sub 68 72), none⟩, 0⟩, ⟨15, ⟨some 74, .pure (.mxmn true [.c 0, 73]), none⟩, 0⟩, ⟨16, ⟨some 75, .pure (.slStr 63 (some 74) none), none⟩, 0⟩, ⟨17, ⟨some 76, .pure (.nilCheck 59), none⟩, 0⟩, ⟨18, ⟨some 77, .pure (.fieldAddr 5 76), none⟩, 0⟩], some (mZ (.st 1 77 75))⟩, ⟨[], [], none⟩]) (.seq (.reg [mM 78 3, mR 79 (.b2s 78), mM 2 79]) .ret)))))
def r275 : List ARes := [.t 2]
theorem k275 : compFn Tryz.prog 275 = some ⟨80, (s275).er, r275⟩ := by kernel_rfl
abbrev q275 (O : Ops Tryz.prog) := curF 1 (sfn O (s275) r275)
def g275 : { g // g = q275 } := by
  have h : q275 = q275 := rfl
  conv at h => rhs; reduce
  exact ⟨_, h.symm⟩
def C275 : T 275 := mkRun 1 (k275) (by decide) (g275.1 (theOps Tryz.prog)) (by rw [g275.2])
/- 205: (*rampart/dir.Dir).Push -/
def s205 (c148 : T 148) (c274 : T 274) (c275 : T 275) : S := .seq (.reg [mN 8 (.newz [0, 0, .s [], .b false])]) (.join [0, 2, 3, 8, 9] [] (.draw 0 [⟨[], [⟨0, ⟨some 18, .pure (.mv 0), none⟩, 0⟩, ⟨1, ⟨some 19, .pure (.nilCheck 18), none⟩, 0⟩, ⟨2, ⟨some 20, .pure (.fieldAddr 0 19), none⟩, 0⟩, ⟨3, ⟨some 21, .read (.ld1 20), none⟩, 0⟩, ⟨4, ⟨some 22, .pure (.mv 1), none⟩, 0⟩, ⟨5, ⟨some 23, .pure (.mv 0), none⟩, 0⟩, ⟨6, ⟨some 24, .pure (.nilCheck 23), none⟩, 0⟩, ⟨7, ⟨some 25, .pure (.fieldAddr 3 24), none⟩, 0⟩, ⟨8, ⟨some 26, .read (.ld1 25), none⟩, 0⟩], some (mQ 27 148 [21, 22, 26] c148)⟩, ⟨[], [⟨10, ⟨some 9, .pure (.mv 27), none⟩, 1⟩], none⟩]) (.join [0, 2, 3, 8, 9, 10] [] (.reg [mM 28 9, mM 29 2, mU 30 (.lenS 29), mB .add 31 28 30, mM 10 31]) (.join [0, 2, 3, 8, 9, 10] [] (.seq (.reg [mM 32 2, mB .eql 33 32 (.c (.s [])), mM 34 33, (mM 35 3).g 34 true, (mU 36 (.un .not 35)).g 34 true, mU 37 (.pick 34 36 (.c (.b false)))]) (.cond 37 (.seq (.reg [mU 38 (.build [0, 0, .s [], .b false] [(0, (1, .c 0))]), mZ (.st 4 8 38)]) .ret) .skip)) (.join [0, 2, 3, 8, 9, 10] [] (.join [0, 2, 3, 8, 9, 10, 43] [] (.reg [mM 39 0, mU 40 (.nilCheck 39), mF 6 41 40, mL 42 41, mB .geq 43 42 (.c 0)]) (.cond 43 (.join [0, 2, 3, 8, 9, 10] [] (.reg [mM 44 3, mM 45 44, (mM 46 10).g 45 true, (mM 47 0).g 45 true, (mU 48 (.nilCheck 47)).g 45 true, (mF 6 49 48).g 45 true, (mL 50 49).g 45 true, (mB .eql 51 46 50).g 45 true, mU 52 (.pick 45 51 (.c (.b false))), mM 3 52]) (.seq (.reg [mM 53 10, mM 54 0, mU 55 (.nilCheck 54), mF 6 56 55, mL 57 56, mB .gtr 58 53 57]) (.cond 58 (.seq (.reg [mM 59 0, mU 60 (.nilCheck 59), mF 6 61 60, mL 62 61, mM 63 9, mU 64 (.mxmn true [62, 63]), mM 10 64]) (.reg [mM 65 2, mM 66 10, mM 67 9, mB .sub 68 66 67, mU 69 (.slStr 65 none (some 68)), mM 2 69])) .skip))) .skip)) (.join [0, 2, 3, 8, 9, 10] [] (.seq (.draw 0 [⟨[], [⟨0, ⟨some 70, .pure (.mv 10), none⟩, 0⟩, ⟨1, ⟨some 71, .pure (.mv 0), none⟩, 0⟩, ⟨2, ⟨some 72, .pure (.nilCheck 71), none⟩, 0⟩, ⟨3, ⟨some 73, .pure (.fieldAddr 3 72), none⟩, 0⟩, ⟨4, ⟨some 74, .read (.ld1 73), none⟩, 0⟩, ⟨5, ⟨some 75, .pure (.mv 0), none⟩, 0⟩, ⟨6, ⟨some 76, .pure (.nilCheck 75), none⟩, 0⟩, ⟨7, ⟨some 77, .pure (.fieldAddr 1 76), none⟩, 0⟩, ⟨8, ⟨some 78, .read (.ld1 77), none⟩, 0⟩, ⟨9, ⟨some 79, .pure (.bin .add 74 78), none⟩, 0⟩, ⟨10, ⟨some 80, .pure (.bin .gtr 70 79), none⟩, 0⟩], none⟩]) (.cond 80 (.seq (.reg [mU 81 (.build [0, 0, .s [], .b false] [(0, (1, .c 5))]), mZ (.st 4 8 81)]) .ret) .skip)) (.join [0, 2, 3, 8, 9, 10] [] (.seq (.reg [mM 82 3, mM 83 82, (mM 84 0).g 83 true, (mU 85 (.nilCheck 84)).g 83 true, (mF 6 86 85).g 83 true, (mL 87 86).g 83 true, (mB .lss 88 87 (.c 0)).g 83 true, mU 89 (.pick 83 88 (.c (.b false))), mM 90 89, (mM 91 10).g 90 true, (mM 92 0).g 90 true, (mU 93 (.nilCheck 92)).g 90 true, (mF 3 94 93).g 90 true, (mL 95 94).g 90 true, (mB .geq 96 91 95).g 90 true, mU 97 (.pick 90 96 (.c (.b false))), mM 98 97, (mM 99 0).g 98 true, (mM 100 10).g 98 true, (mQ 101 274 [99, 100] c274).g 98 true, (mU 102 (.un .not 101)).g 98 true, mU 103 (.pick 98 102 (.c (.b false)))]) (.cond 103 (.reg [mM 104 0, mM 105 10, mU 106 (.nilCheck 104), mF 6 107 106, mZ (.st 1 107 105)]) .skip)) (.join [0, 3, 8, 9, 10] [] (.seq (.reg [mM 108 2, mU 109 (.lenS 108), mK 110 0]) (.block 0 (.loop [110] [0, 2, 3, 8, 9, 10, 109] (.seq (.reg [mB .lss 111 110 109]) (.seq (.cond 111 .skip (.exit 0)) (.join [0, 2, 3, 8, 9, 10, 109, 110] [] (.block 1 (.seq (.reg [mM 112 110, mM 11 112]) (.join [0, 2, 3, 8, 9, 10, 11, 13, 109, 110] [] (.reg [mM 114 0, mU 115 (.nilCheck 114), mF 4 116 115, mL 117 116, mM 118 9, mM 119 11, mB .add 120 118 119, mR 121 (.lookup (.one .i) (.i .u8 0) true 117 120), mM 113 121, mU 122 (.extract 0 113), mU 123 (.extract 1 113), mM 12 122, mM 13 123]) (.join [0, 2, 3, 8, 9, 10, 11, 109, 110, 135] [] (.reg [mM 124 13, mU 125 (.un .not 124), mM 126 125, (mM 127 9).g 126 true, (mM 128 11).g 126 true, (mB .add 129 127 128).g 126 true, (mM 130 0).g 126 true, (mU 131 (.nilCheck 130)).g 126 true, (mF 3 132 131).g 126 true, (mL 133 132).g 126 true, (mB .geq 134 129 133).g 126 true, mU 135 (.pick 126 134 (.c (.b false)))]) (.cond 135 (.draw 0 [⟨[], [⟨0, ⟨some 136, .pure (.mv 0), none⟩, 0⟩, ⟨1, ⟨some 137, .pure (.nilCheck 136), none⟩, 0⟩, ⟨2, ⟨some 138, .pure (.fieldAddr 4 137), none⟩, 0⟩, ⟨3, ⟨some 139, .read (.ld1 138), none⟩, 0⟩, ⟨4, ⟨some 140, .pure (.mv 9), none⟩, 0⟩, ⟨5, ⟨some 141, .pure (.mv 11), none⟩, 0⟩, ⟨6, ⟨some 142, .pure (.bin .add 140 141), none⟩, 0⟩, ⟨7, ⟨some 143, .pure (.mv 2), none⟩, 0⟩, ⟨8, ⟨some 144, .pure (.mv 11), none⟩, 0⟩, ⟨9, ⟨some 145, .pure (.idxStr 143 144), none⟩, 0⟩], some (mZ (.mapUpd (.one .i) 139 142 145))⟩, ⟨[], [], none⟩]) .skip))))) (.reg [mB .add 146 110 (.c 1), mM 110 146]))))))) (.join [0, 3, 8, 9, 10, 14] [] (.reg [mM 147 0, mU 148 (.nilCheck 147), mF 3 149 148, mL 150 149, mM 14 150]) (.seq (.reg [mM 151 0, mQ 152 275 [151] c275, mM 15 152]) (.join [0, 3, 8, 9, 10, 14, 15, 16] [] (.draw 0 [⟨[], [⟨0, ⟨some 153, .pure (.mv 0), none⟩, 0⟩, ⟨1, ⟨some 154, .pure (.nilCheck 153), none⟩, 0⟩, ⟨2, ⟨some 155, .pure (.fieldAddr 3 154), none⟩, 0⟩, ⟨3, ⟨some 156, .read (.ld1 155), none⟩, 0⟩, ⟨4, ⟨some 157, .pure (.mv 0), none⟩, 0⟩, ⟨5, ⟨some 158, .pure (.nilCheck 157), none⟩, 0⟩, ⟨6, ⟨some 159, .pure (.fieldAddr 6 158), none⟩, 0⟩, ⟨7, ⟨some 160, .read (.ld1 159), none⟩, 0⟩, ⟨8, ⟨some 161, .pure (.bin .eql 156 160), none⟩, 0⟩, ⟨9, ⟨some 162, .pure (.mv 161), none⟩, 0⟩, ⟨10, ⟨some 163, .pure (.mv 0), some (162, true)⟩, 0⟩, ⟨11, ⟨some 164, .pure (.nilCheck 163), some (162, true)⟩, 0⟩, ⟨12, ⟨some 165, .pure (.fieldAddr 7 164), some (162, true)⟩, 0⟩, ⟨13, ⟨some 166, .read (.ld1 165), some (162, true)⟩, 0⟩, ⟨14, ⟨some 167, .pure (.un .not 166), some (162, true)⟩, 0⟩, ⟨15, ⟨some 168, .pure (.pick 162 167 (.c (.b false))), none⟩, 0⟩, ⟨16, ⟨some 16, .pure (.mv 168), none⟩, 0⟩], none⟩]) (.join [0, 3, 8, 9, 10, 14, 15, 16] [] (.reg [mM 169 0, mM 170 0, mU 171 (.nilCheck 170), mF 7 172 171, mL 173 172, mM 174 173, (mM 175 16).g 174 false, mU 176 (.pick 174 (.c (.b true)) 175), mU 177 (.nilCheck 169), mF 7 178 177, mZ (.st 1 178 176)]) (.seq (.block 2 (.join [0, 3, 8, 9, 10, 14, 15, 16, 179] [] (.reg [mM 180 15, mB .neq 181 180 (.c (.s [])), mM 182 181, (mM 183 16).g 182 false, mU 184 (.pick 182 (.c (.b true)) 183), mM 179 184]) (.cond 179 (.seq (.reg [mM 185 14, mM 186 15, mM 187 16, mU 188 (.build [0, 0, .s [], .b false] [(0, (1, .c 1)), (1, (1, 185)), (2, (1, 186)), (3, (1, 187))]), mZ (.st 4 8 188)]) .ret) (.join [0, 3, 8, 9, 10, 189] [] (.reg [mM 190 10, mM 191 0, mU 192 (.nilCheck 191), mF 3 193 192, mL 194 193, mB .gtr 195 190 194, mM 189 195]) (.cond 189 (.seq (.reg [mU 196 (.build [0, 0, .s [], .b false] [(0, (1, .c 4))]), mZ (.st 4 8 196)]) .ret) (.join [0, 3, 8, 9, 10, 197] [] (.draw 0 [⟨[], [⟨0, ⟨some 198, .pure (.mv 9), none⟩, 0⟩, ⟨1, ⟨some 199, .pure (.bin .geq 198 (.c 0)), none⟩, 0⟩, ⟨2, ⟨some 200, .pure (.mv 199), none⟩, 0⟩, ⟨3, ⟨some 201, .pure (.mv 9), some (200, true)⟩, 0⟩, ⟨4, ⟨some 202, .pure (.mv 0), some (200, true)⟩, 0⟩, ⟨5, ⟨some 203, .pure (.nilCheck 202), some (200, true)⟩, 0⟩, ⟨6, ⟨some 204, .pure (.fieldAddr 3 203), some (200, true)⟩, 0⟩, ⟨7, ⟨some 205, .read (.ld1 204), some (200, true)⟩, 0⟩, ⟨8, ⟨some 206, .pure (.mv 0), some (200, true)⟩, 0⟩, ⟨9, ⟨some 207, .pure (.nilCheck 206), some (200, true)⟩, 0⟩, ⟨10, ⟨some 208, .pure (.fieldAddr 2 207), some (200, true)⟩, 0⟩, ⟨11, ⟨some 209, .read (.ld1 208), some (200, true)⟩, 0⟩, ⟨12, ⟨some 210, .pure (.bin .sub 205 209), some (200, true)⟩, 0⟩, ⟨13, ⟨some 211, .pure (.bin .geq 201 210), some (200, true)⟩, 0⟩, ⟨14, ⟨some 212, .pure (.pick 200 211 (.c (.b false))), none⟩, 0⟩, ⟨15, ⟨some 197, .pure (.mv 212), none⟩, 0⟩], none⟩]) (.cond 197 (.join [0, 3, 8, 9, 10, 17] [] (.draw 0 [⟨[], [⟨0, ⟨some 213, .pure (.mv 0), none⟩, 0⟩, ⟨1, ⟨some 214, .pure (.nilCheck 213), none⟩, 0⟩, ⟨2, ⟨some 215, .pure (.fieldAddr 3 214), none⟩, 0⟩, ⟨3, ⟨some 216, .read (.ld1 215), none⟩, 0⟩, ⟨4, ⟨some 217, .pure (.mv 0), none⟩, 0⟩, ⟨5, ⟨some 218, .pure (.nilCheck 217), none⟩, 0⟩, ⟨6, ⟨some 219, .pure (.fieldAddr 5 218), none⟩, 0⟩, ⟨7, ⟨some 220, .read (.ld1 219), none⟩, 0⟩, ⟨8, ⟨some 221, .pure (.lenS 220), none⟩, 0⟩, ⟨9, ⟨some 222, .pure (.bin .sub 216 221), none⟩, 0⟩, ⟨10, ⟨some 17, .pure (.mv 222), none⟩, 0⟩], none⟩]) (.seq (.draw 0 [⟨[], [⟨0, ⟨some 223, .pure (.mv 9), none⟩, 0⟩, ⟨1, ⟨some 224, .pure (.mv 0), none⟩, 0⟩, ⟨2, ⟨some 225, .pure (.nilCheck 224), none⟩, 0⟩, ⟨3, ⟨some 226, .pure (.fieldAddr 5 225), none⟩, 0⟩, ⟨4, ⟨some 227, .read (.ld1 226), none⟩, 0⟩, ⟨5, ⟨some 228, .pure (.mv 9), none⟩, 0⟩, ⟨6, ⟨some 229, .pure (.mv 17), none⟩, 0⟩, ⟨7, ⟨some 230, .pure (.bin .sub 228 229), none⟩, 0⟩, ⟨8, ⟨some 231, .pure (.mv 10), none⟩, 0⟩, ⟨9, ⟨some 232, .pure (.mv 17), none⟩, 0⟩, ⟨10, ⟨some 233, .pure (.bin .sub 231 232), none⟩, 0⟩, ⟨11, ⟨some 234, .pure (.slStr 227 (some 230) (some 233)), none⟩, 0⟩, ⟨12, ⟨some 235, .pure (.mv 3), none⟩, 0⟩, ⟨13, ⟨some 236, .pure (.mv 235), none⟩, 0⟩, ⟨14, ⟨some 237, .pure (.mv 0), some (236, true)⟩, 0⟩, ⟨15, ⟨some 238, .pure (.nilCheck 237), some (236, true)⟩, 0⟩, ⟨16, ⟨some 239, .pure (.fieldAddr 7 238), some (236, true)⟩, 0⟩, ⟨17, ⟨some 240, .read (.ld1 239), some (236, true)⟩, 0⟩, ⟨18, ⟨some 241, .pure (.pick 236 240 (.c (.b false))), none⟩, 0⟩, ⟨19, ⟨some 242, .pure (.mv 241), none⟩, 0⟩, ⟨20, ⟨some 243, .pure (.mv 10), some (242, true)⟩, 0⟩, ⟨21, ⟨some 244, .pure (.mv 0), some (242, true)⟩, 0⟩, ⟨22, ⟨some 245, .pure (.nilCheck 244), some (242, true)⟩, 0⟩, ⟨23, ⟨some 246, .pure (.fieldAddr 6 245), some (242, true)⟩, 0⟩, ⟨24, ⟨some 247, .read (.ld1 246), some (242, true)⟩, 0⟩, ⟨25, ⟨some 248, .pure (.bin .eql 243 247), some (242, true)⟩, 0⟩, ⟨26, ⟨some 249, .pure (.pick 242 248 (.c (.b false))), none⟩, 0⟩, ⟨27, ⟨some 250, .pure (.build [0, 0, .s [], .b false] [(0, (1, .c 2)), (1, (1, 223)), (2, (1, 234)), (3, (1, 249))]), none⟩, 0⟩], some (mZ (.st 4 8 250))⟩, ⟨[], [], none⟩]) .ret)) .skip))))))) (.seq (.reg [mU 251 (.build [0, 0, .s [], .b false] [(0, (1, .c 3))]), mZ (.st 4 8 251)]) .ret)))))))))))))
def r205 : List ARes := [.c true 4 8]
theorem k205 (c148 : T 148) (c274 : T 274) (c275 : T 275) : compFn Tryz.prog 205 = some ⟨252, (s205 c148 c274 c275).er, r205⟩ := by kernel_rfl
abbrev q205 (O : Ops Tryz.prog) (c148 : T 148) (c274 : T 274) (c275 : T 275) := curF 4 (sfn O (s205 c148 c274 c275) r205)
def g205 : { g // g = q205 } := by
  have h : q205 = q205 := rfl
  conv at h => rhs; reduce
  exact ⟨_, h.symm⟩
def C205 : T 205 := mkRun 4 (k205 C148 C274 C275) (by decide) (g205.1 (theOps Tryz.prog) C148 C274 C275) (by rw [g205.2])
/- 276: (*rampart/verdict.Side).At -/
def s276 : S := .seq (.reg [mK 2 0]) (.seq (.reg [mM 3 0, mU 4 (.nilCheck 3), mF 3 5 4, mL 6 5, mM 2 6]) .ret)
def r276 : List ARes := [.t 2]
theorem k276 : compFn Tryz.prog 276 = some ⟨7, (s276).er, r276⟩ := by kernel_rfl
abbrev q276 (O : Ops Tryz.prog) := curF 1 (sfn O (s276) r276)
def g276 : { g // g = q276 } := by
  have h : q276 = q276 := rfl
  conv at h => rhs; reduce
  exact ⟨_, h.symm⟩
def C276 : T 276 := mkRun 1 (k276) (by decide) (g276.1 (theOps Tryz.prog)) (by rw [g276.2])
/- 277: (*rampart/dir.Dir).Done -/
def s277 : S := .seq (.reg [mK 2 (.b false)]) (.seq (.reg [mM 3 0, mU 4 (.nilCheck 3), mF 7 5 4, mL 6 5, mM 2 6]) .ret)
def r277 : List ARes := [.t 2]
theorem k277 : compFn Tryz.prog 277 = some ⟨7, (s277).er, r277⟩ := by kernel_rfl
abbrev q277 (O : Ops Tryz.prog) := curF 1 (sfn O (s277) r277)
def g277 : { g // g = q277 } := by
  have h : q277 = q277 := rfl
  conv at h => rhs; reduce
  exact ⟨_, h.symm⟩
def C277 : T 277 := mkRun 1 (k277) (by decide) (g277.1 (theOps Tryz.prog)) (by rw [g277.2])
/- 207: (*rampart/engine.Engine).release -/
def s207 (c113 : T 113) (c114 : T 114) (c115 : T 115) (c200 : T 200) (c204 : T 204) (c206 : T 206) (c276 : T 276) (c277 : T 277) : S := .seq (.reg [mN 5 (.box 2), mK 6 (.b false)]) (.join [0, 1, 5, 7] [] (.reg [mM 12 1, mU 13 (.nilCheck 12), mF 42 14 13, mL 15 14, mM 7 15]) (.join [0, 1, 5, 7] [] (.join [0, 1, 5, 7, 18, 19, 20] [] (.reg [mF 2 16 5, mL 17 16, mN 18 (.s2b 17), mU 19 (.lenSl 18), mK 20 0]) (.block 0 (.loop [20] [0, 1, 5, 7, 18, 19] (.seq (.reg [mB .lss 21 20 19]) (.seq (.cond 21 .skip (.exit 0)) (.seq (.block 1 (.join [0, 1, 5, 7, 9, 18, 19, 20] [] (.reg [mU 22 (.idxAddrSl 1 18 20), mL 23 22, mM 9 23]) (.join [0, 1, 5, 7, 10, 11, 18, 19, 20] [] (.draw 0 [⟨[], [⟨0, ⟨some 25, .pure (.mv 7), none⟩, 0⟩, ⟨1, ⟨some 26, .pure (.mv 1), none⟩, 0⟩, ⟨2, ⟨some 27, .pure (.nilCheck 26), none⟩, 0⟩, ⟨3, ⟨some 28, .pure (.fieldAddr 40 27), none⟩, 0⟩, ⟨4, ⟨some 29, .read (.ld1 28), none⟩, 0⟩, ⟨5, ⟨some 30, .pure (.nilCheck 25), none⟩, 0⟩, ⟨6, ⟨some 31, .pure (.fieldAddr 10 30), none⟩, 0⟩, ⟨7, ⟨some 32, .pure (.idxAddrArr 2 1 31 29), none⟩, 0⟩, ⟨8, ⟨some 33, .read (.ld1 32), none⟩, 0⟩, ⟨9, ⟨some 34, .pure (.mv 9), none⟩, 0⟩], some (mQ 35 115 [33, 34] c115)⟩, ⟨[], [⟨11, ⟨some 24, .pure (.mv 35), none⟩, 1⟩, ⟨12, ⟨some 36, .pure (.extract 0 24), none⟩, 1⟩, ⟨13, ⟨some 37, .pure (.extract 1 24), none⟩, 1⟩, ⟨14, ⟨some 10, .pure (.mv 36), none⟩, 1⟩, ⟨15, ⟨some 11, .pure (.mv 37), none⟩, 1⟩], none⟩]) (.seq (.reg [mM 38 0, mM 39 1, mM 40 10, mQ 41 113 [38, 39, 40] c113]) (.seq (.reg [mM 42 11, mQ 43 114 [42, .c 1] c114]) (.cond 43 (.seq (.draw 0 [⟨[], [⟨0, ⟨some 44, .pure (.mv 0), none⟩, 1⟩, ⟨1, ⟨some 45, .pure (.mv 1), none⟩, 1⟩, ⟨2, ⟨some 46, .pure (.mv 11), none⟩, 1⟩, ⟨3, ⟨some 47, .pure (.mv 7), none⟩, 0⟩, ⟨4, ⟨some 48, .pure (.mv 1), none⟩, 0⟩, ⟨5, ⟨some 49, .pure (.nilCheck 48), none⟩, 0⟩, ⟨6, ⟨some 50, .pure (.fieldAddr 40 49), none⟩, 0⟩, ⟨7, ⟨some 51, .read (.ld1 50), none⟩, 0⟩, ⟨8, ⟨some 52, .pure (.nilCheck 47), none⟩, 0⟩, ⟨9, ⟨some 53, .pure (.fieldAddr 10 52), none⟩, 0⟩, ⟨10, ⟨some 54, .pure (.idxAddrArr 2 1 53 51), none⟩, 0⟩, ⟨11, ⟨some 55, .read (.ld1 54), none⟩, 0⟩, ⟨13, ⟨some 57, .read (.ldN 4 5), none⟩, 1⟩], some (mQ 56 276 [55] c276)⟩, ⟨[⟨some 57, .read (.ldN 4 5), none⟩], [], some (mQ 58 200 [44, 45, 46, 56, 57] c200)⟩, ⟨[], [], none⟩]) (.seq (.reg [mK 6 (.b false)]) .ret)) .skip)))))) (.reg [mB .add 59 20 (.c 1), mM 20 59]))))))) (.join [0, 1, 7] [] (.reg [mM 60 0, mM 61 1, mF 1 62 5, mL 63 62, mF 2 64 5, mL 65 64, mF 3 66 5, mL 67 66, mQ 68 206 [60, 61, 63, 65, 67] c206]) (.join [] [] (.seq (.reg [mM 69 7, mU 70 (.nilCheck 69), mF 8 71 70, mU 72 (.idxAddrArr 2 1 71 (.c 0)), mL 73 72, mQ 74 277 [73] c277, mM 75 74, (mM 76 7).g 75 true, (mU 77 (.nilCheck 76)).g 75 true, (mF 8 78 77).g 75 true, (mU 79 (.idxAddrArr 2 1 78 (.c 1))).g 75 true, (mL 80 79).g 75 true, (mQ 81 277 [80] c277).g 75 true, mU 82 (.pick 75 81 (.c (.b false)))]) (.cond 82 (.reg [mM 83 0, mM 84 1, mQ 85 204 [83, 84] c204]) .skip)) (.seq (.reg [mK 6 (.b false)]) .ret)))))
def r207 : List ARes := [.t 6]
theorem k207 (c113 : T 113) (c114 : T 114) (c115 : T 115) (c200 : T 200) (c204 : T 204) (c206 : T 206) (c276 : T 276) (c277 : T 277) : compFn Tryz.prog 207 = some ⟨86, (s207 c113 c114 c115 c200 c204 c206 c276 c277).er, r207⟩ := by kernel_rfl
abbrev q207 (O : Ops Tryz.prog) (c113 : T 113) (c114 : T 114) (c115 : T 115) (c200 : T 200) (c204 : T 204) (c206 : T 206) (c276 : T 276) (c277 : T 277) := curF 3 (sfn O (s207 c113 c114 c115 c200 c204 c206 c276 c277) r207)
def g207 : { g // g = q207 } := by
  have h : q207 = q207 := rfl
  conv at h => rhs; reduce
  exact ⟨_, h.symm⟩
def C207 : T 207 := mkRun 3 (k207 C113 C114 C115 C200 C204 C206 C276 C277) (by decide) (g207.1 (theOps Tryz.prog) C113 C114 C115 C200 C204 C206 C276 C277) (by rw [g207.2])
/- 123: (*rampart/engine.Engine).push -/
def s123 (c98 : T 98) (c120 : T 120) (c201 : T 201) (c205 : T 205) (c206 : T 206) (c207 : T 207) : S := .seq (.reg [mK 4 (.b false)]) (.join [0, 1, 5] [] (.reg [mM 7 1, mU 8 (.nilCheck 7), mF 42 9 8, mL 10 9, mM 5 10]) (.join [0, 1, 5] [] (.seq (.reg [mM 11 1, mQ 12 120 [11, .c 16] c120, mU 13 (.un .not 12), mM 14 13, (mM 15 5).g 14 false, (mU 16 (.nilCheck 15)).g 14 false, (mF 8 17 16).g 14 false, (mU 18 (.idxAddrArr 2 1 17 (.c 0))).g 14 false, (mL 19 18).g 14 false, (mR 20 (.peq false 19 (.c (.p none)))).g 14 false, mU 21 (.pick 14 (.c (.b true)) 20), mM 22 21, (mM 23 5).g 22 false, (mU 24 (.nilCheck 23)).g 22 false, (mF 8 25 24).g 22 false, (mU 26 (.idxAddrArr 2 1 25 (.c 1))).g 22 false, (mL 27 26).g 22 false, (mR 28 (.peq false 27 (.c (.p none)))).g 22 false, mU 29 (.pick 22 (.c (.b true)) 28)]) (.cond 29 (.seq (.reg [mM 30 0, mU 31 (.nilCheck 30), mF 15 32 31, mF 5 33 32, mQ 34 98 [33] c98, mM 4 34]) .ret) .skip)) (.join [0, 1, 6] [] (.draw 23 [⟨[], [⟨0, ⟨some 35, .pure (.mv 5), none⟩, 1⟩, ⟨1, ⟨some 36, .pure (.mv 1), none⟩, 1⟩, ⟨2, ⟨some 37, .pure (.nilCheck 36), none⟩, 1⟩, ⟨3, ⟨some 38, .pure (.fieldAddr 40 37), none⟩, 1⟩, ⟨4, ⟨some 39, .read (.ld1 38), none⟩, 1⟩, ⟨5, ⟨some 40, .pure (.nilCheck 35), none⟩, 1⟩, ⟨6, ⟨some 41, .pure (.fieldAddr 8 40), none⟩, 1⟩, ⟨7, ⟨some 42, .pure (.idxAddrArr 2 1 41 39), none⟩, 1⟩, ⟨8, ⟨some 43, .read (.ld1 42), none⟩, 1⟩, ⟨9, ⟨some 44, .pure (.mv 1), none⟩, 1⟩, ⟨10, ⟨some 45, .pure (.nilCheck 44), none⟩, 1⟩, ⟨11, ⟨some 46, .pure (.fieldAddr 26 45), none⟩, 1⟩, ⟨12, ⟨some 47, .pure (.fieldAddr 2 46), none⟩, 1⟩, ⟨13, ⟨some 48, .read (.ld1 47), none⟩, 1⟩, ⟨14, ⟨some 49, .pure (.mv 1), none⟩, 1⟩, ⟨15, ⟨some 50, .pure (.nilCheck 49), none⟩, 1⟩, ⟨16, ⟨some 51, .pure (.fieldAddr 33 50), none⟩, 1⟩, ⟨17, ⟨some 52, .read (.ld1 51), none⟩, 1⟩, ⟨18, ⟨some 53, .pure (.mv 1), none⟩, 0⟩, ⟨21, ⟨some 6, .alloc (.newz [0, 0, .s [], .b false]), none⟩, 2⟩], some (mQ 54 120 [53, .c 1] c120)⟩, ⟨[⟨some 39, .read (.ld1 38), none⟩, ⟨some 43, .read (.ld1 42), none⟩, ⟨some 48, .read (.ld1 47), none⟩, ⟨some 52, .read (.ld1 51), none⟩], [], some (mQ 55 205 [43, 48, 52, 54] c205)⟩, ⟨[], [], some (mZ (.st 4 6 55))⟩, ⟨[], [], none⟩]) (.seq (.join [0, 1, 6, 57] [] (.reg [mF 0 56 6, mL 57 56]) (.block 0 (.seq (.reg [mB .eql 59 57 (.c 5), mM 58 59]) (.cond 58 (.seq (.reg [mM 60 0, mU 61 (.nilCheck 60), mF 15 62 61, mF 8 63 62, mQ 64 98 [63] c98, mM 4 64]) .ret) (.seq (.reg [mB .eql 66 57 (.c 4), mM 65 66]) (.cond 65 (.seq (.reg [mM 67 0, mU 68 (.nilCheck 67), mF 15 69 68, mF 7 70 69, mQ 71 98 [70] c98, mM 4 71]) .ret) (.seq (.reg [mB .eql 73 57 (.c 3), mM 72 73]) (.cond 72 (.seq (.reg [mM 74 0, mU 75 (.nilCheck 74), mF 15 76 75, mF 6 77 76, mQ 78 98 [77] c98, mM 4 78]) .ret) (.seq (.reg [mB .eql 80 57 (.c 2), mM 79 80]) (.cond 79 (.seq (.reg [mM 81 0, mU 82 (.nilCheck 81), mF 15 83 82, mF 6 84 83, mL 85 84, mB .add 86 85 (.c 1), mU 87 (.nilCheck 81), mF 15 88 87, mF 6 89 88, mZ (.st 1 89 86)]) (.seq (.reg [mM 90 0, mM 91 1, mF 1 92 6, mL 93 92, mF 2 94 6, mL 95 94, mF 3 96 6, mL 97 96, mQ 98 206 [90, 91, 93, 95, 97] c206, mM 4 98]) .ret)) (.seq (.reg [mB .eql 100 57 (.c 1), mM 99 100]) (.cond 99 (.seq (.reg [mM 101 0, mM 102 1, mR 103 (.ldN 4 6), mQ 104 207 [101, 102, 103] c207, mM 4 104]) .ret) .skip)))))))))))) (.seq (.reg [mM 105 0, mM 106 1, mQ 107 201 [105, 106] c201, mM 4 107]) .ret)))))
def r123 : List ARes := [.t 4]
theorem k123 (c98 : T 98) (c120 : T 120) (c201 : T 201) (c205 : T 205) (c206 : T 206) (c207 : T 207) : compFn Tryz.prog 123 = some ⟨108, (s123 c98 c120 c201 c205 c206 c207).er, r123⟩ := by kernel_rfl
abbrev q123 (O : Ops Tryz.prog) (c98 : T 98) (c120 : T 120) (c201 : T 201) (c205 : T 205) (c206 : T 206) (c207 : T 207) := curF 2 (sfn O (s123 c98 c120 c201 c205 c206 c207) r123)
def g123 : { g // g = q123 } := by
  have h : q123 = q123 := rfl
  conv at h => rhs; reduce
  exact ⟨_, h.symm⟩
def C123 : T 123 := mkRun 2 (k123 C98 C120 C201 C205 C206 C207) (by decide) (g123.1 (theOps Tryz.prog) C98 C120 C201 C205 C206 C207) (by rw [g123.2])
/- 57: (*rampart/engine.Engine).segment -/
def s57 (c119 : T 119) (c120 : T 120) (c121 : T 121) (c122 : T 122) (c123 : T 123) : S := .seq (.reg [mK 4 (.b false)]) (.seq (.block 0 (.seq (.reg [mM 6 1, mU 7 (.nilCheck 6), mF 41 8 7, mL 9 8, mM 5 9]) (.cond 5 (.seq (.reg [mM 10 0, mM 11 1, mQ 12 119 [10, 11] c119, mM 4 12]) .ret) (.seq (.reg [mM 14 1, mQ 15 120 [14, .c 4] c120, mM 13 15]) (.cond 13 (.seq (.reg [mM 16 0, mM 17 1, mQ 18 121 [16, 17] c121, mM 4 18]) .ret) (.seq (.reg [mM 20 1, mQ 21 120 [20, .c 2] c120, mM 19 21]) (.cond 19 (.seq (.reg [mM 22 0, mM 23 1, mQ 24 122 [22, 23] c122, mM 4 24]) .ret) .skip))))))) (.seq (.reg [mM 25 0, mM 26 1, mQ 27 123 [25, 26] c123, mM 4 27]) .ret))
def r57 : List ARes := [.t 4]
theorem k57 (c119 : T 119) (c120 : T 120) (c121 : T 121) (c122 : T 122) (c123 : T 123) : compFn Tryz.prog 57 = some ⟨28, (s57 c119 c120 c121 c122 c123).er, r57⟩ := by kernel_rfl
abbrev q57 (O : Ops Tryz.prog) (c119 : T 119) (c120 : T 120) (c121 : T 121) (c122 : T 122) (c123 : T 123) := curF 2 (sfn O (s57 c119 c120 c121 c122 c123) r57)
def g57 : { g // g = q57 } := by
  have h : q57 = q57 := rfl
  conv at h => rhs; reduce
  exact ⟨_, h.symm⟩
def C57 : T 57 := mkRun 2 (k57 C119 C120 C121 C122 C123) (by decide) (g57.1 (theOps Tryz.prog) C119 C120 C121 C122 C123) (by rw [g57.2])
def A57 : U := ⟨57, C57⟩
/- 21: (*rampart/engine.Engine).Frame -/
def s21 (a48 : U) (a49 : U) (a50 : U) (a51 : U) (a52 : U) (a53 : U) (a54 : U) (a55 : U) (a56 : U) (a57 : U) : S := .seq (.reg [mN 6 (.newz [.sl 0 none 0 0, .sl 0 none 0 0, 0, 0])]) (.join [0, 1, 2, 6] [] (.reg [mM 10 0, mU 11 (.nilCheck 10), mF 15 12 11, mF 0 13 12, mL 14 13, mB .add 15 14 (.c 1), mU 16 (.nilCheck 10), mF 15 17 16, mF 0 18 17, mZ (.st 1 18 15)]) (.join [0, 6, 7] [] (.reg [mM 19 1, mM 20 2, mU 21 (.build [0, .s [], .i .u8 0, .i .u8 0, .i .u8 0, .i .u8 0, .i .u8 0, .i .u8 0, .i .u8 0, .i .u8 0, .i .u8 0, .i .u8 0, .i .u8 0, .i .u8 0, 0, 0, 0, .b false, .b false, 0, 0, 0, .i .u32 0, .i .u32 0, .s [], .s [], 0, 0, .i .u32 0, .i .u32 0, 0, 0, .s [], .s [], 0, .i .u32 0, .i .u32 0, 0, 0, 0, 0, .b false, .p none, .sl 0 none 0 0, .sl 0 none 0 0, 0, 0] [(0, (1, 19)), (1, (1, 20))]), mN 22 (.box 21), mM 7 22]) (.join [6, 7] [] (.seq (.reg [mM 23 0, mU 24 (.mkFunc 48 [23] []), mM 25 0, mU 26 (.mkFunc 49 [25] []), mM 27 0, mU 28 (.mkFunc 50 [27] []), mM 29 0, mU 30 (.mkFunc 51 [29] []), mM 31 0, mU 32 (.mkFunc 52 [31] []), mM 33 0, mU 34 (.mkFunc 53 [33] []), mM 35 0, mU 36 (.mkFunc 54 [35] []), mM 37 0, mU 38 (.mkFunc 55 [37] []), mM 39 0, mU 40 (.mkFunc 56 [39] []), mM 41 0, mU 42 (.mkFunc 57 [41] []), mN 43 (.bslice 1 10 [.nf, .nf, .nf, .nf, .nf, .nf, .nf, .nf, .nf, .nf] [(0, (1, 24)), (1, (1, 26)), (2, (1, 28)), (3, (1, 30)), (4, (1, 32)), (5, (1, 34)), (6, (1, 36)), (7, (1, 38)), (8, (1, 40)), (9, (1, 42))]), mU 44 (.lenSl 43), mK 45 0]) (.block 0 (.loop [45] [6, 7, 43, 44] (.seq (.reg [mB .lss 46 45 44]) (.seq (.cond 46 .skip (.exit 0)) (.seq (.block 1 (.seq (.reg [mU 47 (.idxAddrSl 1 43 45), mL 48 47, mM 9 48]) (.seq (.reg [mM 49 9, mM 50 7, mV 51 49 [50] [a48, a49, a50, a51, a52, a53, a54, a55, a56, a57] [], mU 52 (.un .not 51)]) (.cond 52 (.exit 0) .skip)))) (.reg [mB .add 53 45 (.c 1), mM 45 53]))))))) (.seq (.reg [mM 54 7, mU 55 (.nilCheck 54), mF 43 56 55, mR 57 (.ldN 4 56), mZ (.st 4 6 57)]) .ret))))
def r21 : List ARes := [.c true 4 6]
theorem k21 (a48 : U) (a49 : U) (a50 : U) (a51 : U) (a52 : U) (a53 : U) (a54 : U) (a55 : U) (a56 : U) (a57 : U) : compFn Tryz.prog 21 = some ⟨58, (s21 a48 a49 a50 a51 a52 a53 a54 a55 a56 a57).er, r21⟩ := by kernel_rfl
abbrev q21 (O : Ops Tryz.prog) (a48 : U) (a49 : U) (a50 : U) (a51 : U) (a52 : U) (a53 : U) (a54 : U) (a55 : U) (a56 : U) (a57 : U) := curF 3 (sfn O (s21 a48 a49 a50 a51 a52 a53 a54 a55 a56 a57) r21)
def g21 : { g // g = q21 } := by
  have h : q21 = q21 := rfl
  conv at h => rhs; reduce
  exact ⟨_, h.symm⟩
def C21 : T 21 := mkRun 3 (k21 A48 A49 A50 A51 A52 A53 A54 A55 A56 A57) (by decide) (g21.1 (theOps Tryz.prog) A48 A49 A50 A51 A52 A53 A54 A55 A56 A57) (by rw [g21.2])
/- 136: rampart/play.Do$2 -/
def s136 (c21 : T 21) : S := .seq (.reg [mN 2 (.newz [.sl 0 none 0 0, .sl 0 none 0 0, 0, 0])]) (.seq (.reg [mL 3 0, mF 1 4 1, mL 5 4, mF 2 6 1, mL 7 6, mQ 8 21 [3, 5, 7] c21, mZ (.st 4 2 8)]) .ret)
def r136 : List ARes := [.c true 4 2]
theorem k136 (c21 : T 21) : compFn Tryz.prog 136 = some ⟨9, (s136 c21).er, r136⟩ := by kernel_rfl
abbrev q136 (O : Ops Tryz.prog) (c21 : T 21) := curF 2 (sfn O (s136 c21) r136)
def g136 : { g // g = q136 } := by
  have h : q136 = q136 := rfl
  conv at h => rhs; reduce
  exact ⟨_, h.symm⟩
def C136 : T 136 := mkRun 2 (k136 C21) (by decide) (g136.1 (theOps Tryz.prog) C21) (by rw [g136.2])
def A136 : U := ⟨136, C136⟩
/- 65: (*rampart/table.Table).Tick -/
def s65 (c130 : T 130) : S := .seq (.reg [mN 2 (.box 0), mK 4 (.sl 0 none 0 0)]) (.seq (.reg [mL 5 2, mU 6 (.nilCheck 5), mF 2 7 6, mL 8 7, mM 9 1, mU 10 (.mxmn false [9, .c 100000]), mU 11 (.mxmn true [.c 0, 10]), mB .add 12 8 11, mU 13 (.nilCheck 5), mF 2 14 13, mZ (.st 1 14 12)]) (.seq (.reg [mL 15 2, mU 16 (.mkFunc 131 [] [2]), mQ 17 130 [15, 16] c130, mM 4 17]) .ret))
def r65 : List ARes := [.t 4]
theorem k65 (c130 : T 130) : compFn Tryz.prog 65 = some ⟨18, (s65 c130).er, r65⟩ := by kernel_rfl
abbrev q65 (O : Ops Tryz.prog) (c130 : T 130) := curF 2 (sfn O (s65 c130) r65)
def g65 : { g // g = q65 } := by
  have h : q65 = q65 := rfl
  conv at h => rhs; reduce
  exact ⟨_, h.symm⟩
def C65 : T 65 := mkRun 2 (k65 C130) (by decide) (g65.1 (theOps Tryz.prog) C130) (by rw [g65.2])
/- 67: (*rampart/defrag.Table).Tick -/
def s67 : S := .seq (.reg [mK 4 0]) (.join [0, 1] [] (.reg [mM 8 1, mU 9 (.mxmn false [8, .c 100000]), mU 10 (.mxmn true [.c 0, 9]), mM 1 10]) (.seq (.reg [mK 5 0]) (.seq (.join [0, 1, 5, 15] [] (.reg [mM 11 0, mU 12 (.nilCheck 11), mF 2 13 12, mL 14 13, mY 15 (.rangeM 14)]) (.block 0 (.loop [5] [0, 1, 15] (.join [0, 1, 5, 15, 17] [] (.reg [mY 16 (.nextM 15), mU 17 (.extract 0 16)]) (.seq (.cond 17 .skip (.exit 0)) (.block 1 (.join [0, 1, 5, 6, 7, 15] [] (.reg [mY 18 (.entryM 15), mU 19 (.extract 0 18), mU 20 (.extract 1 18), mN 6 (.newz [.i .u32 0, .i .u32 0, 0, 0]), mZ (.st 4 6 19), mM 7 20]) (.join [0, 1, 5, 6, 7, 15] [] (.reg [mM 21 7, mU 22 (.nilCheck 21), mF 2 23 22, mL 24 23, mM 25 1, mB .add 26 24 25, mU 27 (.nilCheck 21), mF 2 28 27, mZ (.st 1 28 26)]) (.seq (.draw 0 [⟨[], [⟨0, ⟨some 29, .pure (.mv 7), none⟩, 0⟩, ⟨1, ⟨some 30, .pure (.nilCheck 29), none⟩, 0⟩, ⟨2, ⟨some 31, .pure (.fieldAddr 2 30), none⟩, 0⟩, ⟨3, ⟨some 32, .read (.ld1 31), none⟩, 0⟩, ⟨4, ⟨some 33, .pure (.mv 0), none⟩, 0⟩, ⟨5, ⟨some 34, .pure (.nilCheck 33), none⟩, 0⟩, ⟨6, ⟨some 35, .pure (.fieldAddr 1 34), none⟩, 0⟩, ⟨7, ⟨some 36, .read (.ld1 35), none⟩, 0⟩, ⟨8, ⟨some 37, .pure (.bin .geq 32 36), none⟩, 0⟩], none⟩]) (.cond 37 (.seq (.draw 0 [⟨[], [⟨0, ⟨some 38, .pure (.mv 0), none⟩, 0⟩, ⟨1, ⟨some 39, .pure (.nilCheck 38), none⟩, 0⟩, ⟨2, ⟨some 40, .pure (.fieldAddr 2 39), none⟩, 0⟩, ⟨3, ⟨some 41, .read (.ld1 40), none⟩, 0⟩, ⟨4, ⟨some 42, .read (.ldN 4 6), none⟩, 0⟩], some (mZ (.del (.flat [(0, .i), (1, .i), (2, .i), (3, .i)]) 41 42))⟩, ⟨[], [], none⟩]) (.reg [mM 43 5, mB .add 44 43 (.c 1), mM 5 44])) .skip)))))))))) (.seq (.reg [mM 45 5, mM 4 45]) .ret))))
def r67 : List ARes := [.t 4]
theorem k67 : compFn Tryz.prog 67 = some ⟨46, (s67).er, r67⟩ := by kernel_rfl
abbrev q67 (O : Ops Tryz.prog) := curF 2 (sfn O (s67) r67)
def g67 : { g // g = q67 } := by
  have h : q67 = q67 := rfl
  conv at h => rhs; reduce
  exact ⟨_, h.symm⟩
def C67 : T 67 := mkRun 2 (k67) (by decide) (g67.1 (theOps Tryz.prog)) (by rw [g67.2])
/- 132: slices.DeleteFunc[[]rampart/blocks.block,rampart/blocks.block] -/
def s132 (c197 : T 197) (a89 : U) (a257 : U) : S := .seq (.reg [mK 4 (.sl 0 none 0 0)]) (.seq (.reg [mM 8 0, mM 9 1, mQ 10 197 [8, 9] c197, mM 5 10]) (.seq (.seq (.reg [mM 11 5, mB .eql 12 11 (.c (.i .i64 (-1)))]) (.cond 12 (.seq (.reg [mM 13 0, mM 4 13]) .ret) .skip)) (.seq (.seq (.reg [mM 14 5, mB .add 15 14 (.c 1), mM 6 15]) (.block 0 (.loop [5, 6] [0, 1] (.join [0, 1, 5, 6] [] (.seq (.reg [mM 16 6, mM 17 0, mU 18 (.lenSl 17), mB .lss 19 16 18]) (.cond 19 .skip (.exit 0))) (.join [0, 1, 5, 6] [] (.block 1 (.seq (.reg [mM 22 0, mM 23 6, mU 24 (.idxAddrSl 6 22 23), mR 25 (.ldN 6 24), mN 7 (.newz [0, .i .u32 0, .i .u32 0, 0, 0, 0]), mZ (.st 6 7 25)]) (.seq (.reg [mM 26 1, mR 27 (.ldN 6 7), mV 28 26 [27] [a89, a257] [], mU 29 (.un .not 28)]) (.cond 29 (.seq (.reg [mM 30 0, mM 31 5, mR 32 (.ldN 6 7), mU 33 (.idxAddrSl 6 30 31), mZ (.st 6 33 32)]) (.reg [mM 34 5, mB .add 35 34 (.c 1), mM 5 35])) .skip)))) (.reg [mM 20 6, mB .add 21 20 (.c 1), mM 6 21])))))) (.seq (.reg [mM 36 0, mM 37 5, mU 38 (.slSl 6 36 (some 37) none none), mZ (.clearSl 6 [0, .i .u32 0, .i .u32 0, 0, 0, 0] 38)]) (.seq (.reg [mM 39 0, mM 40 5, mU 41 (.slSl 6 39 none (some 40) none), mM 4 41]) .ret)))))
def r132 : List ARes := [.t 4]
theorem k132 (c197 : T 197) (a89 : U) (a257 : U) : compFn Tryz.prog 132 = some ⟨42, (s132 c197 a89 a257).er, r132⟩ := by kernel_rfl
abbrev q132 (O : Ops Tryz.prog) (c197 : T 197) (a89 : U) (a257 : U) := curF 2 (sfn O (s132 c197 a89 a257) r132)
def g132 : { g // g = q132 } := by
  have h : q132 = q132 := rfl
  conv at h => rhs; reduce
  exact ⟨_, h.symm⟩
def C132 : T 132 := mkRun 2 (k132 C197 A89 A257) (by decide) (g132.1 (theOps Tryz.prog) C197 A89 A257) (by rw [g132.2])
/- 68: (*rampart/blocks.Blocks).Tick -/
def s68 (c132 : T 132) : S := .seq (.reg [mK 4 0]) (.join [0] [] (.reg [mM 6 0, mU 7 (.nilCheck 6), mF 0 8 7, mL 9 8, mM 10 1, mU 11 (.mxmn false [10, .c 100000]), mU 12 (.mxmn true [.c 0, 11]), mB .add 13 9 12, mU 14 (.nilCheck 6), mF 0 15 14, mZ (.st 1 15 13)]) (.join [0, 5] [] (.reg [mM 16 0, mU 17 (.nilCheck 16), mF 2 18 17, mL 19 18, mU 20 (.lenSl 19), mM 5 20]) (.seq (.draw 0 [⟨[], [⟨0, ⟨some 21, .pure (.mv 0), none⟩, 1⟩, ⟨1, ⟨some 22, .pure (.mv 0), none⟩, 0⟩, ⟨2, ⟨some 23, .pure (.nilCheck 22), none⟩, 0⟩, ⟨3, ⟨some 24, .pure (.fieldAddr 2 23), none⟩, 0⟩, ⟨4, ⟨some 25, .read (.ld1 24), none⟩, 0⟩, ⟨5, ⟨some 26, .pure (.mv 0), none⟩, 0⟩, ⟨6, ⟨some 27, .pure (.nilCheck 26), none⟩, 0⟩, ⟨7, ⟨some 28, .pure (.fieldAddr 1 27), none⟩, 0⟩, ⟨8, ⟨some 29, .read (.ld1 28), none⟩, 0⟩], some (mQ 30 132 [25, 29] c132)⟩, ⟨[], [⟨10, ⟨some 31, .pure (.nilCheck 21), none⟩, 1⟩, ⟨11, ⟨some 32, .pure (.fieldAddr 2 31), none⟩, 1⟩], some (mZ (.st 1 32 30))⟩, ⟨[], [], none⟩]) (.seq (.reg [mM 33 5, mM 34 0, mU 35 (.nilCheck 34), mF 2 36 35, mL 37 36, mU 38 (.lenSl 37), mB .sub 39 33 38, mM 4 39]) .ret))))
def r68 : List ARes := [.t 4]
theorem k68 (c132 : T 132) : compFn Tryz.prog 68 = some ⟨40, (s68 c132).er, r68⟩ := by kernel_rfl
abbrev q68 (O : Ops Tryz.prog) (c132 : T 132) := curF 2 (sfn O (s68 c132) r68)
def g68 : { g // g = q68 } := by
  have h : q68 = q68 := rfl
  conv at h => rhs; reduce
  exact ⟨_, h.symm⟩
def C68 : T 68 := mkRun 2 (k68 C132) (by decide) (g68.1 (theOps Tryz.prog) C132) (by rw [g68.2])
/- 28: (*rampart/engine.Engine).Tick -/
def s28 (c65 : T 65) (c66 : T 66) (c67 : T 67) (c68 : T 68) : S := .seq (.reg [mN 4 (.newz [.sl 0 none 0 0, .sl 0 none 0 0, 0, 0])]) (.join [0, 1, 4, 5] [] (.reg [mM 6 0, mU 7 (.nilCheck 6), mF 12 8 7, mL 9 8, mM 10 1, mQ 11 65 [9, 10] c65, mM 5 11]) (.seq (.reg [mM 12 0, mM 13 5, mQ 14 66 [12, 13] c66]) (.seq (.draw 0 [⟨[], [⟨0, ⟨some 15, .pure (.mv 0), none⟩, 1⟩, ⟨1, ⟨some 16, .pure (.nilCheck 15), none⟩, 1⟩, ⟨2, ⟨some 17, .pure (.fieldAddr 15 16), none⟩, 1⟩, ⟨3, ⟨some 18, .pure (.fieldAddr 11 17), none⟩, 1⟩, ⟨4, ⟨some 19, .read (.ld1 18), none⟩, 1⟩, ⟨5, ⟨some 20, .pure (.mv 5), none⟩, 1⟩, ⟨6, ⟨some 21, .pure (.lenSl 20), none⟩, 1⟩, ⟨7, ⟨some 22, .pure (.mv 0), none⟩, 0⟩, ⟨8, ⟨some 23, .pure (.nilCheck 22), none⟩, 0⟩, ⟨9, ⟨some 24, .pure (.fieldAddr 11 23), none⟩, 0⟩, ⟨10, ⟨some 25, .read (.ld1 24), none⟩, 0⟩, ⟨11, ⟨some 26, .pure (.mv 1), none⟩, 0⟩], some (mQ 27 67 [25, 26] c67)⟩, ⟨[⟨some 19, .read (.ld1 18), none⟩], [⟨13, ⟨some 28, .pure (.bin .add 21 27), none⟩, 1⟩, ⟨14, ⟨some 29, .pure (.bin .add 19 28), none⟩, 1⟩, ⟨15, ⟨some 30, .pure (.nilCheck 15), none⟩, 1⟩, ⟨16, ⟨some 31, .pure (.fieldAddr 15 30), none⟩, 1⟩, ⟨17, ⟨some 32, .pure (.fieldAddr 11 31), none⟩, 1⟩], some (mZ (.st 1 32 29))⟩, ⟨[], [], none⟩]) (.seq (.reg [mM 33 0, mU 34 (.nilCheck 33), mF 13 35 34, mL 36 35, mM 37 1, mQ 38 68 [36, 37] c68]) (.seq (.reg [mU 39 (.build [.sl 0 none 0 0, .sl 0 none 0 0, 0, 0] []), mZ (.st 4 4 39)]) .ret)))))
def r28 : List ARes := [.c true 4 4]
theorem k28 (c65 : T 65) (c66 : T 66) (c67 : T 67) (c68 : T 68) : compFn Tryz.prog 28 = some ⟨40, (s28 c65 c66 c67 c68).er, r28⟩ := by kernel_rfl
abbrev q28 (O : Ops Tryz.prog) (c65 : T 65) (c66 : T 66) (c67 : T 67) (c68 : T 68) := curF 2 (sfn O (s28 c65 c66 c67 c68) r28)
def g28 : { g // g = q28 } := by
  have h : q28 = q28 := rfl
  conv at h => rhs; reduce
  exact ⟨_, h.symm⟩
def C28 : T 28 := mkRun 2 (k28 C65 C66 C67 C68) (by decide) (g28.1 (theOps Tryz.prog) C65 C66 C67 C68) (by rw [g28.2])
/- 137: rampart/play.Do$3 -/
def s137 (c28 : T 28) : S := .seq (.reg [mN 2 (.newz [.sl 0 none 0 0, .sl 0 none 0 0, 0, 0])]) (.seq (.reg [mL 3 0, mF 1 4 1, mL 5 4, mQ 6 28 [3, 5] c28, mZ (.st 4 2 6)]) .ret)
def r137 : List ARes := [.c true 4 2]
theorem k137 (c28 : T 28) : compFn Tryz.prog 137 = some ⟨7, (s137 c28).er, r137⟩ := by kernel_rfl
abbrev q137 (O : Ops Tryz.prog) (c28 : T 28) := curF 2 (sfn O (s137 c28) r137)
def g137 : { g // g = q137 } := by
  have h : q137 = q137 := rfl
  conv at h => rhs; reduce
  exact ⟨_, h.symm⟩
def C137 : T 137 := mkRun 2 (k137 C28) (by decide) (g137.1 (theOps Tryz.prog) C28) (by rw [g137.2])
def A137 : U := ⟨137, C137⟩
/- 138: rampart/play.Do$4 -/
def s138 (c19 : T 19) : S := .seq (.reg [mN 2 (.newz [.sl 0 none 0 0, .sl 0 none 0 0, 0, 0])]) (.seq (.reg [mL 3 0, mF 2 4 1, mL 5 4, mQ 6 19 [3, 5] c19, mZ (.st 4 2 6)]) .ret)
def r138 : List ARes := [.c true 4 2]
theorem k138 (c19 : T 19) : compFn Tryz.prog 138 = some ⟨7, (s138 c19).er, r138⟩ := by kernel_rfl
abbrev q138 (O : Ops Tryz.prog) (c19 : T 19) := curF 2 (sfn O (s138 c19) r138)
def g138 : { g // g = q138 } := by
  have h : q138 = q138 := rfl
  conv at h => rhs; reduce
  exact ⟨_, h.symm⟩
def C138 : T 138 := mkRun 2 (k138 C19) (by decide) (g138.1 (theOps Tryz.prog) C19) (by rw [g138.2])
def A138 : U := ⟨138, C138⟩
/- 73: rampart/play.Do -/
def s73 (a29 : U) (a30 : U) (a135 : U) (a136 : U) (a137 : U) (a138 : U) : S := .join [2, 3, 4] [] (.reg [mN 2 (.box 0), mN 3 (.box 1), mN 4 (.newz [.sl 0 none 0 0, .sl 0 none 0 0, 0, 0])]) (.join [2, 3, 4] [] (.seq (.reg [mF 0 6 3, mL 7 6, mB .lss 8 7 (.c 0), mM 9 8, (mF 0 10 3).g 9 false, (mL 11 10).g 9 false, (mB .geq 12 11 (.c 6)).g 9 false, mU 13 (.pick 9 (.c (.b true)) 12)]) (.cond 13 (.seq (.reg [mU 14 (.build [.sl 0 none 0 0, .sl 0 none 0 0, 0, 0] []), mZ (.st 4 4 14)]) .ret) .skip)) (.seq (.reg [mU 15 (.mkFunc 136 [] [2, 3]), mU 16 (.mkFunc 137 [] [2, 3]), mU 17 (.mkFunc 138 [] [2, 3]), mL 18 2, mU 19 (.mkFunc 29 [18] []), mL 20 2, mU 21 (.mkFunc 30 [20] []), mU 22 (.build [.nf, .nf, .nf, .nf, .nf, .nf] [(0, (1, .fn 135)), (1, (1, 15)), (2, (1, 16)), (3, (1, 17)), (4, (1, 19)), (5, (1, 21))]), mN 5 (.newz [.nf, .nf, .nf, .nf, .nf, .nf]), mZ (.st 6 5 22)]) (.seq (.reg [mF 0 23 3, mL 24 23, mU 25 (.idxAddrArr 6 1 5 24), mL 26 25, mV 27 26 [] [a29, a30, a135, a136, a137, a138] [], mZ (.st 4 4 27)]) .ret)))
def r73 : List ARes := [.c true 4 4]
theorem k73 (a29 : U) (a30 : U) (a135 : U) (a136 : U) (a137 : U) (a138 : U) : compFn Tryz.prog 73 = some ⟨28, (s73 a29 a30 a135 a136 a137 a138).er, r73⟩ := by kernel_rfl
abbrev q73 (O : Ops Tryz.prog) (a29 : U) (a30 : U) (a135 : U) (a136 : U) (a137 : U) (a138 : U) := curF 2 (sfn O (s73 a29 a30 a135 a136 a137 a138) r73)
def g73 : { g // g = q73 } := by
  have h : q73 = q73 := rfl
  conv at h => rhs; reduce
  exact ⟨_, h.symm⟩
def C73 : T 73 := mkRun 2 (k73 A29 A30 A135 A136 A137 A138) (by decide) (g73.1 (theOps Tryz.prog) A29 A30 A135 A136 A137 A138) (by rw [g73.2])
/- 33: rampart/play.Run -/
def s33 (c17 : T 17) (c25 : T 25) (c73 : T 73) : S := .join [1, 2, 5] [] (.reg [mN 2 (.box 0), mK 4 (.sl 0 none 0 0), mN 5 (.newz [0, 0, 0, 0, 0, 0, 0, 0, 0, 0, 0, 0, 0, 0]), mK 6 0]) (.join [1, 5, 7, 8] [] (.reg [mR 13 (.ldN 9 2), mQ 14 17 [13] c17, mM 12 14, mU 15 (.extract 0 12), mU 16 (.extract 1 12), mM 7 15, mM 8 16]) (.join [1, 5, 7] [] (.seq (.reg [mM 17 8, mB .neq 18 17 (.c 0)]) (.cond 18 (.seq (.reg [mU 19 (.build [0, 0, 0, 0, 0, 0, 0, 0, 0, 0, 0, 0, 0, 0] []), mM 20 8, mK 4 (.sl 0 none 0 0), mZ (.st 14 5 19), mM 6 20]) .ret) .skip)) (.seq (.reg [mK 9 (.sl 0 none 0 0)]) (.seq (.join [5, 7, 9, 25, 26, 27] [] (.reg [mM 21 1, mM 22 1, mU 23 (.lenSl 22), mU 24 (.mxmn false [23, .c 300]), mU 25 (.slSl 3 21 none (some 24) none), mU 26 (.lenSl 25), mK 27 0]) (.block 0 (.loop [9, 27] [5, 7, 25, 26] (.seq (.reg [mB .lss 28 27 26]) (.seq (.cond 28 .skip (.exit 0)) (.seq (.block 1 (.seq (.reg [mU 29 (.idxAddrSl 3 25 27), mR 30 (.ldN 3 29), mN 11 (.newz [0, 0, .s []]), mZ (.st 3 11 30)]) (.reg [mM 31 9, mM 32 7, mR 33 (.ldN 3 11), mQ 34 73 [32, 33] c73, mN 35 (.bslice 4 1 [.sl 0 none 0 0, .sl 0 none 0 0, 0, 0] [(0, (4, 34))]), mY 36 (.append 4 64 31 35), mM 9 36]))) (.reg [mB .add 37 27 (.c 1), mM 27 37]))))))) (.seq (.reg [mM 38 9, mM 39 7, mQ 40 25 [39] c25, mM 4 38, mZ (.st 14 5 40), mK 6 0]) .ret)))))
def r33 : List ARes := [.t 4, .c true 14 5, .t 6]
theorem k33 (c17 : T 17) (c25 : T 25) (c73 : T 73) : compFn Tryz.prog 33 = some ⟨41, (s33 c17 c25 c73).er, r33⟩ := by kernel_rfl
abbrev q33 (O : Ops Tryz.prog) (c17 : T 17) (c25 : T 25) (c73 : T 73) := curF 2 (sfn O (s33 c17 c25 c73) r33)
def g33 : { g // g = q33 } := by
  have h : q33 = q33 := rfl
  conv at h => rhs; reduce
  exact ⟨_, h.symm⟩
def C33 : T 33 := mkRun 2 (k33 C17 C25 C73) (by decide) (g33.1 (theOps Tryz.prog) C17 C25 C73) (by rw [g33.2])
/- 147: rampart/tally.segments -/
def s147 : S := .seq (.reg [mN 1 (.box 0), mK 2 .nf]) (.seq (.reg [mU 3 (.mkFunc 222 [] [1]), mM 2 3]) .ret)
def r147 : List ARes := [.t 2]
theorem k147 : compFn Tryz.prog 147 = some ⟨4, (s147).er, r147⟩ := by kernel_rfl
abbrev q147 (O : Ops Tryz.prog) := curF 1 (sfn O (s147) r147)
def g147 : { g // g = q147 } := by
  have h : q147 = q147 := rfl
  conv at h => rhs; reduce
  exact ⟨_, h.symm⟩
def C147 : T 147 := mkRun 1 (k147) (by decide) (g147.1 (theOps Tryz.prog)) (by rw [g147.2])
/- 223: rampart/tally.get -/
def s223 (c99 : T 99) (c101 : T 101) (c103 : T 103) : S := .seq (.reg [mN 2 (.newz [0, .i .u32 0, .i .u32 0, 0, 0, 0, 0, .i .u32 0, .i .u32 0, 0, 0, .s [], .s []]), mK 3 (.b false)]) (.join [2, 4, 5, 6] [] (.reg [mM 11 0, mQ 12 99 [11] c99, mM 10 12, mU 13 (.extract 0 10), mU 14 (.extract 1 10), mU 15 (.extract 2 10), mN 4 (.newz [.i .u8 0, .i .u8 0, .i .u8 0, .i .u8 0, .i .u8 0, .i .u8 0, .i .u8 0, .i .u8 0, .i .u8 0, .i .u8 0, .i .u8 0, .i .u8 0, 0]), mZ (.st 13 4 13), mM 5 14, mM 6 15]) (.join [2, 5] [] (.seq (.reg [mM 16 6, mB .neq 17 16 (.c 0), mM 18 17, (mF 12 19 4).g 18 false, (mL 20 19).g 18 false, (mB .neq 21 20 (.c 2048)).g 18 false, mU 22 (.pick 18 (.c (.b true)) 21)]) (.cond 22 (.seq (.reg [mU 23 (.build [0, .i .u32 0, .i .u32 0, 0, 0, 0, 0, .i .u32 0, .i .u32 0, 0, 0, .s [], .s []] []), mZ (.st 13 2 23), mK 3 (.b false)]) .ret) .skip)) (.join [2, 5, 6, 7] [] (.reg [mM 25 5, mQ 26 101 [25] c101, mM 24 26, mU 27 (.extract 0 24), mU 28 (.extract 1 24), mU 29 (.extract 2 24), mN 7 (.newz [0, 0, .b false, .b false, 0, 0, 0, .i .u32 0, .i .u32 0, .s []]), mZ (.st 10 7 27), mM 5 28, mM 6 29]) (.join [2, 5, 7] [] (.seq (.reg [mM 30 6, mB .neq 31 30 (.c 0), mM 32 31, (mF 6 33 7).g 32 false, (mL 34 33).g 32 false, (mB .neq 35 34 (.c 6)).g 32 false, mU 36 (.pick 32 (.c (.b true)) 35)]) (.cond 36 (.seq (.reg [mU 37 (.build [0, .i .u32 0, .i .u32 0, 0, 0, 0, 0, .i .u32 0, .i .u32 0, 0, 0, .s [], .s []] []), mZ (.st 13 2 37), mK 3 (.b false)]) .ret) .skip)) (.join [2, 6, 7, 8, 9] [] (.reg [mF 7 39 7, mL 40 39, mF 8 41 7, mL 42 41, mM 43 5, mQ 44 103 [40, 42, 43] c103, mM 38 44, mU 45 (.extract 0 38), mU 46 (.extract 1 38), mU 47 (.extract 2 38), mN 8 (.newz [0, 0, .i .u32 0, .i .u32 0, 0, 0, .s []]), mZ (.st 7 8 45), mM 9 46, mM 6 47]) (.seq (.reg [mF 6 48 7, mL 49 48, mF 7 50 7, mL 51 50, mF 8 52 7, mL 53 52, mF 0 54 8, mL 55 54, mF 1 56 8, mL 57 56, mU 58 (.build [0, .i .u32 0, .i .u32 0, 0, 0] [(0, (1, 49)), (1, (1, 51)), (2, (1, 53)), (3, (1, 55)), (4, (1, 57))]), mR 59 (.ldN 7 8), mM 60 9, mU 61 (.build [0, .i .u32 0, .i .u32 0, 0, 0, 0, 0, .i .u32 0, .i .u32 0, 0, 0, .s [], .s []] [(0, (5, 58)), (5, (7, 59)), (12, (1, 60))]), mM 62 6, mB .eql 63 62 (.c 0), mZ (.st 13 2 61), mM 3 63]) .ret))))))
def r223 : List ARes := [.c true 13 2, .t 3]
theorem k223 (c99 : T 99) (c101 : T 101) (c103 : T 103) : compFn Tryz.prog 223 = some ⟨64, (s223 c99 c101 c103).er, r223⟩ := by kernel_rfl
abbrev q223 (O : Ops Tryz.prog) (c99 : T 99) (c101 : T 101) (c103 : T 103) := curF 1 (sfn O (s223 c99 c101 c103) r223)
def g223 : { g // g = q223 } := by
  have h : q223 = q223 := rfl
  conv at h => rhs; reduce
  exact ⟨_, h.symm⟩
def C223 : T 223 := mkRun 1 (k223 C99 C101 C103) (by decide) (g223.1 (theOps Tryz.prog) C99 C101 C103) (by rw [g223.2])
/- a round in 84: rampart/tally.Payload -/
def sa84_0 (c148 : T 148) : SC Tryz.prog := .reg [mN 8 (.newz [0, .i .u32 0, .i .u32 0, 0, 0, 0, 0, .i .u32 0, .i .u32 0, 0, 0, .s [], .s []]), mZ (.st 13 8 19)]
def sb84_0 (c148 : T 148) : SC Tryz.prog := .block 1 (.join [5, 7, 8] [] (.seq (.reg [mF 0 20 8, mR 21 (.ldN 5 20), mR 22 (.ldN 5 4), mU 23 (.eqAgg true [(0, .i), (1, .i), (2, .i), (3, .i), (4, .i)] 21 22)]) (.cond 23 (.exit 1) .skip)) (.join [7, 8, 9] [] (.reg [mL 24 5, mF 5 25 8, mF 2 26 25, mL 27 26, mL 28 7, mR 29 (.lenM 28), mQ 30 148 [24, 27, 29] c148, mM 9 30]) (.join [7, 8, 9, 33, 34] [] (.reg [mF 12 31 8, mL 32 31, mU 33 (.lenS 32), mK 34 0]) (.block 2 (.loop [34] [7, 8, 9, 33] (.seq (.reg [mB .lss 35 34 33]) (.seq (.cond 35 .skip (.exit 2)) (.join [7, 8, 9, 33, 34] [] (.block 3 (.seq (.reg [mM 36 34, mM 10 36]) (.join [7, 8, 9, 10, 12, 33, 34] [] (.reg [mL 38 7, mM 39 9, mM 40 10, mB .add 41 39 40, mR 42 (.lookup (.one .i) (.i .u8 0) true 38 41), mM 37 42, mU 43 (.extract 0 37), mU 44 (.extract 1 37), mM 11 43, mM 12 44]) (.join [7, 8, 9, 10, 33, 34, 52] [] (.reg [mM 45 12, mU 46 (.un .not 45), mM 47 46, (mM 48 9).g 47 true, (mM 49 10).g 47 true, (mB .add 50 48 49).g 47 true, (mB .geq 51 50 (.c 0)).g 47 true, mU 52 (.pick 47 51 (.c (.b false)))]) (.cond 52 (.draw 0 [⟨[], [⟨0, ⟨some 53, .read (.ld1 7), none⟩, 0⟩, ⟨1, ⟨some 54, .pure (.mv 9), none⟩, 0⟩, ⟨2, ⟨some 55, .pure (.mv 10), none⟩, 0⟩, ⟨3, ⟨some 56, .pure (.bin .add 54 55), none⟩, 0⟩, ⟨4, ⟨some 57, .pure (.fieldAddr 12 8), none⟩, 0⟩, ⟨5, ⟨some 58, .read (.ld1 57), none⟩, 0⟩, ⟨6, ⟨some 59, .pure (.mv 10), none⟩, 0⟩, ⟨7, ⟨some 60, .pure (.idxStr 58 59), none⟩, 0⟩], some (mZ (.mapUpd (.one .i) 53 56 60))⟩, ⟨[], [], none⟩]) .skip))))) (.reg [mB .add 61 34 (.c 1), mM 34 61])))))))))
theorem kl84_0 (c148 : T 148) : compLoop Tryz.prog 84 0 = some ⟨[19], (sa84_0 c148).er, (sb84_0 c148).er⟩ := by kernel_rfl
def gl84_0 : { g : Ops Tryz.prog → RunF Tryz.prog 148 → Nat → Env → FunT 1 // g = fun (O : Ops Tryz.prog) (c148 : T 148) (n : Nat) (env : Env) => curF 1 (srnd O [19] (sa84_0 c148) (sb84_0 c148) [4, 5, 7] n env) } := by
  have h : (fun (O : Ops Tryz.prog) (c148 : T 148) (n : Nat) (env : Env) => curF 1 (srnd O [19] (sa84_0 c148) (sb84_0 c148) [4, 5, 7] n env)) = (fun (O : Ops Tryz.prog) (c148 : T 148) (n : Nat) (env : Env) => curF 1 (srnd O [19] (sa84_0 c148) (sb84_0 c148) [4, 5, 7] n env)) := rfl
  conv at h => rhs; reduce
  exact ⟨_, h.symm⟩
def Y84_0 : YAlt Tryz.prog := mkYld 1 [4, 5, 7] (kl84_0 C148) rfl (gl84_0.1 (theOps Tryz.prog) C148) (fun n env => by rw [gl84_0.2])
/- 222: rampart/tally.segments$1 -/
def s222 (c223 : T 223) (y84_0 : YAlt Tryz.prog) : S := .join [0, 9, 10, 11] [] (.reg [mL 9 1, mU 10 (.lenSl 9), mK 11 0]) (.block 0 (.loop [11] [0, 9, 10] (.seq (.reg [mB .lss 12 11 10]) (.seq (.cond 12 .skip (.exit 0)) (.seq (.block 1 (.join [0, 4, 9, 10, 11] [] (.reg [mU 13 (.idxAddrSl 4 9 11), mR 14 (.ldN 4 13), mN 4 (.newz [.sl 0 none 0 0, .sl 0 none 0 0, 0, 0]), mZ (.st 4 4 14)]) (.join [0, 9, 10, 11, 16, 17, 18] [] (.reg [mF 0 15 4, mL 16 15, mU 17 (.lenSl 16), mK 18 0]) (.block 2 (.loop [18] [0, 9, 10, 11, 16, 17] (.seq (.reg [mB .lss 19 18 17]) (.seq (.cond 19 .skip (.exit 2)) (.seq (.block 3 (.join [0, 6, 9, 10, 11, 16, 17, 18] [] (.reg [mU 20 (.idxAddrSl 2 16 18), mR 21 (.ldN 2 20), mN 6 (.newz [0, .s []]), mZ (.st 2 6 21)]) (.seq (.reg [mF 1 23 6, mL 24 23, mQ 25 223 [24] c223, mM 22 25, mU 26 (.extract 0 22), mU 27 (.extract 1 22), mN 7 (.newz [0, .i .u32 0, .i .u32 0, 0, 0, 0, 0, .i .u32 0, .i .u32 0, 0, 0, .s [], .s []]), mZ (.st 13 7 26), mM 8 27]) (.seq (.reg [mM 28 8, mM 29 28, (mM 30 0).g 29 true, (mR 31 (.ldN 13 7)).g 29 true, (mV 32 30 [31] [] [y84_0]).g 29 true, (mU 33 (.un .not 32)).g 29 true, mU 34 (.pick 29 33 (.c (.b false)))]) (.cond 34 .ret .skip))))) (.reg [mB .add 35 18 (.c 1), mM 18 35]))))))))) (.reg [mB .add 36 11 (.c 1), mM 11 36]))))))
def r222 : List ARes := []
theorem k222 (c223 : T 223) (y84_0 : YAlt Tryz.prog) : compFn Tryz.prog 222 = some ⟨37, (s222 c223 y84_0).er, r222⟩ := by kernel_rfl
abbrev q222 (O : Ops Tryz.prog) (c223 : T 223) (y84_0 : YAlt Tryz.prog) := curF 2 (sfn O (s222 c223 y84_0) r222)
def g222 : { g // g = q222 } := by
  have h : q222 = q222 := rfl
  conv at h => rhs; reduce
  exact ⟨_, h.symm⟩
def C222 : T 222 := mkRun 2 (k222 C223 Y84_0) (by decide) (g222.1 (theOps Tryz.prog) C223 Y84_0) (by rw [g222.2])
def A222 : U := ⟨222, C222⟩
/- 84: rampart/tally.Payload -/
def s84 (c147 : T 147) (a222 : U) : S := .join [0, 4, 5, 6] [] (.reg [mN 4 (.box 1), mN 5 (.box 2), mK 6 (.s [])]) (.join [0, 4, 5, 6, 7] [] (.reg [mN 16 .mkmap, mN 7 (.newz [.m none]), mZ (.st 1 7 16)]) (.seq (.seq (.reg [mM 17 0, mQ 18 147 [17] c147]) (.block 0 (.rangeF 18 84 0 [4, 5, 7] [a222]))) (.seq (.reg [mK 13 (.sl 0 none 0 0)]) (.block 4 (.loop [13] [7] (.block 5 (.seq (.reg [mL 63 7, mM 64 13, mU 65 (.lenSl 64), mR 66 (.lookup (.one .i) (.i .u8 0) true 63 65), mM 62 66, mU 67 (.extract 0 62), mU 68 (.extract 1 62), mM 14 67, mM 15 68]) (.seq (.seq (.reg [mM 69 15, mU 70 (.un .not 69)]) (.cond 70 (.seq (.reg [mM 71 13, mR 72 (.b2s 71), mM 6 72]) .ret) .skip)) (.reg [mM 73 13, mM 74 14, mN 75 (.bslice 1 1 [.i .u8 0] [(0, (1, 74))]), mY 76 (.append 1 1 73 75), mM 13 76])))))))))
def r84 : List ARes := [.t 6]
theorem k84 (c147 : T 147) (a222 : U) : compFn Tryz.prog 84 = some ⟨77, (s84 c147 a222).er, r84⟩ := by kernel_rfl
abbrev q84 (O : Ops Tryz.prog) (c147 : T 147) (a222 : U) := curF 3 (sfn O (s84 c147 a222) r84)
def g84 : { g // g = q84 } := by
  have h : q84 = q84 := rfl
  conv at h => rhs; reduce
  exact ⟨_, h.symm⟩
def C84 : T 84 := mkRun 3 (k84 C147 A222) (by decide) (g84.1 (theOps Tryz.prog) C147 A222) (by rw [g84.2])
/- 85: rampart/rampartlaw00.Tuple -/
def s85 : S := .seq (.reg [mN 2 (.newz [0, .i .u32 0, .i .u32 0, 0, 0])]) (.seq (.reg [mM 3 0, mB .add 4 (.c 1000) 3, mU 5 (.build [0, .i .u32 0, .i .u32 0, 0, 0] [(0, (1, .c 6)), (1, (1, .c (.i .u32 167772161))), (2, (1, .c (.i .u32 167772162))), (3, (1, 4)), (4, (1, .c 80))]), mZ (.st 5 2 5)]) .ret)
def r85 : List ARes := [.c true 5 2]
theorem k85 : compFn Tryz.prog 85 = some ⟨6, (s85).er, r85⟩ := by kernel_rfl
abbrev q85 (O : Ops Tryz.prog) := curF 1 (sfn O (s85) r85)
def g85 : { g // g = q85 } := by
  have h : q85 = q85 := rfl
  conv at h => rhs; reduce
  exact ⟨_, h.symm⟩
def C85 : T 85 := mkRun 1 (k85) (by decide) (g85.1 (theOps Tryz.prog)) (by rw [g85.2])
/- 38: rampart/ramparttop.awake -/
def s38 (c18 : T 18) (c20 : T 20) (c22 : T 22) (c33 : T 33) (c84 : T 84) (c85 : T 85) : S := .seq (.reg [mK 0 (.b false)]) (.join [1] [] (.reg [mQ 5 20 [.c 0, .c (.i .u32 100)] c20, mQ 6 22 [.c 0, .c 0, .c 16, .c (.i .u32 101), .c (.i .u32 5001), .c (.s [97])] c22, mU 7 (.build [0, 0, .s []] [(0, (1, .c 1)), (2, (1, 6))]), mN 8 (.bslice 3 1 [0, 0, .s []] [(0, (3, 7))]), mY 9 (.append 3 32 5 8), mM 1 9]) (.join [2, 3, 4] [] (.reg [mQ 11 18 [] c18, mM 12 1, mQ 13 33 [11, 12] c33, mM 10 13, mU 14 (.extract 0 10), mU 15 (.extract 1 10), mU 16 (.extract 2 10), mN 3 (.newz [0, 0, 0, 0, 0, 0, 0, 0, 0, 0, 0, 0, 0, 0]), mM 2 14, mZ (.st 14 3 15), mM 4 16]) (.seq (.reg [mM 17 4, mB .eql 18 17 (.c 0), mM 19 18, (mM 20 2).g 19 true, (mU 21 (.lenSl 20)).g 19 true, (mB .eql 22 21 (.c 4)).g 19 true, mU 23 (.pick 19 22 (.c (.b false))), mM 24 23, (mF 1 25 3).g 24 true, (mL 26 25).g 24 true, (mB .eql 27 26 (.c 4)).g 24 true, mU 28 (.pick 24 27 (.c (.b false))), mM 29 28, (mM 30 2).g 29 true, (mQ 31 85 [.c 0] c85).g 29 true, (mQ 32 84 [30, 31, .c (.i .u32 101)] c84).g 29 true, (mB .eql 33 32 (.c (.s [97]))).g 29 true, mU 34 (.pick 29 33 (.c (.b false))), mM 0 34]) .ret)))
def r38 : List ARes := [.t 0]
theorem k38 (c18 : T 18) (c20 : T 20) (c22 : T 22) (c33 : T 33) (c84 : T 84) (c85 : T 85) : compFn Tryz.prog 38 = some ⟨35, (s38 c18 c20 c22 c33 c84 c85).er, r38⟩ := by kernel_rfl
abbrev q38 (O : Ops Tryz.prog) (c18 : T 18) (c20 : T 20) (c22 : T 22) (c33 : T 33) (c84 : T 84) (c85 : T 85) := curF 0 (sfn O (s38 c18 c20 c22 c33 c84 c85) r38)
def g38 : { g // g = q38 } := by
  have h : q38 = q38 := rfl
  conv at h => rhs; reduce
  exact ⟨_, h.symm⟩
def C38 : T 38 := mkRun 0 (k38 C18 C20 C22 C33 C84 C85) (by decide) (g38.1 (theOps Tryz.prog) C18 C20 C22 C33 C84 C85) (by rw [g38.2])
/- 34: rampart/rampartlaw26.awake -/
def s34 (c18 : T 18) (c33 : T 33) : S := .seq (.reg [mK 0 (.b false)]) (.join [1, 2, 3] [] (.reg [mQ 8 18 [] c18, mQ 9 33 [8, .c (.sl 0 none 0 0)] c33, mM 7 9, mU 10 (.extract 0 7), mU 11 (.extract 1 7), mU 12 (.extract 2 7), mN 2 (.newz [0, 0, 0, 0, 0, 0, 0, 0, 0, 0, 0, 0, 0, 0]), mM 1 10, mZ (.st 14 2 11), mM 3 12]) (.join [1, 2, 3, 6] [] (.reg [mU 14 (.build [0, 0, 0, 0, 0, 0, 0, 0, 0] []), mQ 15 33 [14, .c (.sl 0 none 0 0)] c33, mM 13 15, mU 16 (.extract 0 13), mU 17 (.extract 1 13), mU 18 (.extract 2 13), mN 5 (.newz [0, 0, 0, 0, 0, 0, 0, 0, 0, 0, 0, 0, 0, 0]), mM 4 16, mZ (.st 14 5 17), mM 6 18]) (.seq (.reg [mM 19 1, mU 20 (.lenSl 19), mB .eql 21 20 (.c 0), mM 22 21, (mF 0 23 2).g 22 true, (mL 24 23).g 22 true, (mB .eql 25 24 (.c 0)).g 22 true, mU 26 (.pick 22 25 (.c (.b false))), mM 27 26, (mM 28 3).g 27 true, (mB .eql 29 28 (.c 0)).g 27 true, mU 30 (.pick 27 29 (.c (.b false))), mM 31 30, (mM 32 6).g 31 true, (mB .eql 33 32 (.c 1)).g 31 true, mU 34 (.pick 31 33 (.c (.b false))), mM 0 34]) .ret)))
def r34 : List ARes := [.t 0]
theorem k34 (c18 : T 18) (c33 : T 33) : compFn Tryz.prog 34 = some ⟨35, (s34 c18 c33).er, r34⟩ := by kernel_rfl
abbrev q34 (O : Ops Tryz.prog) (c18 : T 18) (c33 : T 33) := curF 0 (sfn O (s34 c18 c33) r34)
def g34 : { g // g = q34 } := by
  have h : q34 = q34 := rfl
  conv at h => rhs; reduce
  exact ⟨_, h.symm⟩
def C34 : T 34 := mkRun 0 (k34 C18 C33) (by decide) (g34.1 (theOps Tryz.prog) C18 C33) (by rw [g34.2])
/- 12: rampart/rampartlaw25.awake -/
def s12 (c17 : T 17) (c18 : T 18) (c21 : T 21) (c25 : T 25) : S := .seq (.reg [mK 0 (.b false)]) (.join [1, 2] [] (.reg [mQ 8 18 [] c18, mQ 9 17 [8] c17, mM 7 9, mU 10 (.extract 0 7), mU 11 (.extract 1 7), mM 1 10, mM 2 11]) (.join [1] [] (.seq (.reg [mM 12 2, mB .neq 13 12 (.c 0), mM 14 13, (mM 15 1).g 14 false, (mR 16 (.peq false 15 (.c (.p none)))).g 14 false, mU 17 (.pick 14 (.c (.b true)) 16)]) (.cond 17 (.seq (.reg [mK 0 (.b false)]) .ret) .skip)) (.seq (.reg [mK 3 (.s [100, 100, 100, 100, 100, 100, 115, 115, 115, 115, 115, 115, 8, 6, 120])]) (.join [1, 3, 4] [] (.reg [mM 18 1, mM 19 3, mQ 20 21 [18, .c 0, 19] c21, mN 4 (.newz [.sl 0 none 0 0, .sl 0 none 0 0, 0, 0]), mZ (.st 4 4 20)]) (.join [1, 3, 4, 5] [] (.reg [mM 21 1, mQ 22 21 [21, .c 1, .c (.s [115, 104, 111, 114, 116])] c21, mN 5 (.newz [.sl 0 none 0 0, .sl 0 none 0 0, 0, 0]), mZ (.st 4 5 22)]) (.join [3, 4, 5, 6] [] (.reg [mM 23 1, mQ 24 25 [23] c25, mN 6 (.newz [0, 0, 0, 0, 0, 0, 0, 0, 0, 0, 0, 0, 0, 0]), mZ (.st 14 6 24)]) (.seq (.reg [mF 0 25 4, mL 26 25, mU 27 (.lenSl 26), mB .eql 28 27 (.c 1), mM 29 28, (mF 0 30 4).g 29 true, (mL 31 30).g 29 true, (mU 32 (.idxAddrSl 2 31 (.c 0))).g 29 true, (mF 0 33 32).g 29 true, (mL 34 33).g 29 true, (mB .eql 35 34 (.c 1)).g 29 true, mU 36 (.pick 29 35 (.c (.b false))), mM 37 36, (mF 0 38 4).g 37 true, (mL 39 38).g 37 true, (mU 40 (.idxAddrSl 2 39 (.c 0))).g 37 true, (mF 1 41 40).g 37 true, (mL 42 41).g 37 true, (mM 43 3).g 37 true, (mB .eql 44 42 43).g 37 true, mU 45 (.pick 37 44 (.c (.b false))), mM 46 45, (mF 0 47 5).g 46 true, (mL 48 47).g 46 true, (mU 49 (.lenSl 48)).g 46 true, (mB .eql 50 49 (.c 0)).g 46 true, mU 51 (.pick 46 50 (.c (.b false))), mM 52 51, (mF 0 53 6).g 52 true, (mL 54 53).g 52 true, (mB .eql 55 54 (.c 2)).g 52 true, mU 56 (.pick 52 55 (.c (.b false))), mM 57 56, (mF 1 58 6).g 57 true, (mL 59 58).g 57 true, (mB .eql 60 59 (.c 1)).g 57 true, mU 61 (.pick 57 60 (.c (.b false))), mM 62 61, (mF 2 63 6).g 62 true, (mL 64 63).g 62 true, (mB .eql 65 64 (.c 1)).g 62 true, mU 66 (.pick 62 65 (.c (.b false))), mM 0 66]) .ret)))))))
def r12 : List ARes := [.t 0]
theorem k12 (c17 : T 17) (c18 : T 18) (c21 : T 21) (c25 : T 25) : compFn Tryz.prog 12 = some ⟨67, (s12 c17 c18 c21 c25).er, r12⟩ := by kernel_rfl
abbrev q12 (O : Ops Tryz.prog) (c17 : T 17) (c18 : T 18) (c21 : T 21) (c25 : T 25) := curF 0 (sfn O (s12 c17 c18 c21 c25) r12)
def g12 : { g // g = q12 } := by
  have h : q12 = q12 := rfl
  conv at h => rhs; reduce
  exact ⟨_, h.symm⟩
def C12 : T 12 := mkRun 0 (k12 C17 C18 C21 C25) (by decide) (g12.1 (theOps Tryz.prog) C17 C18 C21 C25) (by rw [g12.2])
/- 23: rampart/rampartlaw25.btoi -/
def s23 : S := .seq (.reg [mK 2 0]) (.seq (.seq (.reg [mM 3 0]) (.cond 3 (.seq (.reg [mK 2 1]) .ret) .skip)) (.seq (.reg [mK 2 0]) .ret))
def r23 : List ARes := [.t 2]
theorem k23 : compFn Tryz.prog 23 = some ⟨4, (s23).er, r23⟩ := by kernel_rfl
abbrev q23 (O : Ops Tryz.prog) := curF 1 (sfn O (s23) r23)
def g23 : { g // g = q23 } := by
  have h : q23 = q23 := rfl
  conv at h => rhs; reduce
  exact ⟨_, h.symm⟩
def C23 : T 23 := mkRun 1 (k23) (by decide) (g23.1 (theOps Tryz.prog)) (by rw [g23.2])
/- 61: (*rampart/blocks.Blocks).All -/
def s61 : S := .seq (.reg [mK 2 (.sl 0 none 0 0)]) (.seq (.reg [mK 3 (.sl 0 none 0 0)]) (.seq (.join [3, 9, 10, 11] [] (.reg [mM 6 0, mU 7 (.nilCheck 6), mF 2 8 7, mL 9 8, mU 10 (.lenSl 9), mK 11 0]) (.block 0 (.loop [3, 11] [9, 10] (.seq (.reg [mB .lss 12 11 10]) (.seq (.cond 12 .skip (.exit 0)) (.seq (.block 1 (.seq (.reg [mU 13 (.idxAddrSl 6 9 11), mR 14 (.ldN 6 13), mN 5 (.newz [0, .i .u32 0, .i .u32 0, 0, 0, 0]), mZ (.st 6 5 14)]) (.reg [mM 15 3, mF 0 16 5, mR 17 (.ldN 5 16), mN 18 (.bslice 5 1 [0, .i .u32 0, .i .u32 0, 0, 0] [(0, (5, 17))]), mY 19 (.append 5 32 15 18), mM 3 19]))) (.reg [mB .add 20 11 (.c 1), mM 11 20]))))))) (.seq (.reg [mM 21 3, mM 2 21]) .ret)))
def r61 : List ARes := [.t 2]
theorem k61 : compFn Tryz.prog 61 = some ⟨22, (s61).er, r61⟩ := by kernel_rfl
abbrev q61 (O : Ops Tryz.prog) := curF 1 (sfn O (s61) r61)
def g61 : { g // g = q61 } := by
  have h : q61 = q61 := rfl
  conv at h => rhs; reduce
  exact ⟨_, h.symm⟩
def C61 : T 61 := mkRun 1 (k61) (by decide) (g61.1 (theOps Tryz.prog)) (by rw [g61.2])
/- 24: (*rampart/engine.Engine).Blocks -/
def s24 (c61 : T 61) : S := .seq (.reg [mK 2 (.sl 0 none 0 0)]) (.seq (.reg [mM 3 0, mU 4 (.nilCheck 3), mF 13 5 4, mL 6 5, mQ 7 61 [6] c61, mM 2 7]) .ret)
def r24 : List ARes := [.t 2]
theorem k24 (c61 : T 61) : compFn Tryz.prog 24 = some ⟨8, (s24 c61).er, r24⟩ := by kernel_rfl
abbrev q24 (O : Ops Tryz.prog) (c61 : T 61) := curF 1 (sfn O (s24 c61) r24)
def g24 : { g // g = q24 } := by
  have h : q24 = q24 := rfl
  conv at h => rhs; reduce
  exact ⟨_, h.symm⟩
def C24 : T 24 := mkRun 1 (k24 C61) (by decide) (g24.1 (theOps Tryz.prog) C61) (by rw [g24.2])
/- 72: (*rampart/table.Table).All -/
def s72 (c134 : T 134) : S := .seq (.reg [mK 2 (.sl 0 none 0 0)]) (.seq (.reg [mK 3 (.sl 0 none 0 0)]) (.seq (.seq (.reg [mM 6 0, mQ 7 134 [6] c134, mU 8 (.lenSl 7), mK 9 0]) (.block 0 (.loop [3, 9] [7, 8] (.seq (.reg [mB .lss 10 9 8]) (.seq (.cond 10 .skip (.exit 0)) (.seq (.block 1 (.seq (.reg [mU 11 (.idxAddrSl 1 7 9), mL 12 11, mM 5 12]) (.reg [mM 13 3, mM 14 5, mU 15 (.nilCheck 14), mF 0 16 15, mR 17 (.ldN 5 16), mN 18 (.bslice 5 1 [0, .i .u32 0, .i .u32 0, 0, 0] [(0, (5, 17))]), mY 19 (.append 5 32 13 18), mM 3 19]))) (.reg [mB .add 20 9 (.c 1), mM 9 20]))))))) (.seq (.reg [mM 21 3, mM 2 21]) .ret)))
def r72 : List ARes := [.t 2]
theorem k72 (c134 : T 134) : compFn Tryz.prog 72 = some ⟨22, (s72 c134).er, r72⟩ := by kernel_rfl
abbrev q72 (O : Ops Tryz.prog) (c134 : T 134) := curF 1 (sfn O (s72 c134) r72)
def g72 : { g // g = q72 } := by
  have h : q72 = q72 := rfl
  conv at h => rhs; reduce
  exact ⟨_, h.symm⟩
def C72 : T 72 := mkRun 1 (k72 C134) (by decide) (g72.1 (theOps Tryz.prog) C134) (by rw [g72.2])
/- 31: (*rampart/engine.Engine).Flows -/
def s31 (c72 : T 72) : S := .seq (.reg [mK 2 (.sl 0 none 0 0)]) (.seq (.reg [mM 3 0, mU 4 (.nilCheck 3), mF 12 5 4, mL 6 5, mQ 7 72 [6] c72, mM 2 7]) .ret)
def r31 : List ARes := [.t 2]
theorem k31 (c72 : T 72) : compFn Tryz.prog 31 = some ⟨8, (s31 c72).er, r31⟩ := by kernel_rfl
abbrev q31 (O : Ops Tryz.prog) (c72 : T 72) := curF 1 (sfn O (s31 c72) r31)
def g31 : { g // g = q31 } := by
  have h : q31 = q31 := rfl
  conv at h => rhs; reduce
  exact ⟨_, h.symm⟩
def C31 : T 31 := mkRun 1 (k31 C72) (by decide) (g31.1 (theOps Tryz.prog) C72) (by rw [g31.2])
/- 32: rampart/rampartref25.Check -/
def s32 : S := .seq (.reg [mN 1 (.box 0), mK 2 (.b false)]) (.seq (.reg [mF 0 3 1, mL 4 3, mB .geq 5 4 (.c 1), mM 6 5, (mF 0 7 1).g 6 true, (mL 8 7).g 6 true, (mB .leq 9 8 (.c 64)).g 6 true, mU 10 (.pick 6 9 (.c (.b false))), mM 11 10, (mF 1 12 1).g 11 true, (mL 13 12).g 11 true, (mB .geq 14 13 (.c 1)).g 11 true, mU 15 (.pick 11 14 (.c (.b false))), mM 16 15, (mF 1 17 1).g 16 true, (mL 18 17).g 16 true, (mB .leq 19 18 (.c 32)).g 16 true, mU 20 (.pick 16 19 (.c (.b false))), mM 21 20, (mF 2 22 1).g 21 true, (mL 23 22).g 21 true, (mB .geq 24 23 (.c 0)).g 21 true, mU 25 (.pick 21 24 (.c (.b false))), mM 26 25, (mF 2 27 1).g 26 true, (mL 28 27).g 26 true, (mB .leq 29 28 (.c 1024)).g 26 true, mU 30 (.pick 26 29 (.c (.b false))), mM 31 30, (mF 3 32 1).g 31 true, (mL 33 32).g 31 true, (mB .geq 34 33 (.c 0)).g 31 true, mU 35 (.pick 31 34 (.c (.b false))), mM 36 35, (mF 3 37 1).g 36 true, (mL 38 37).g 36 true, (mB .leq 39 38 (.c 1024)).g 36 true, mU 40 (.pick 36 39 (.c (.b false))), mM 41 40, (mF 4 42 1).g 41 true, (mL 43 42).g 41 true, (mB .geq 44 43 (.c 1)).g 41 true, mU 45 (.pick 41 44 (.c (.b false))), mM 46 45, (mF 4 47 1).g 46 true, (mL 48 47).g 46 true, (mB .leq 49 48 (.c 32)).g 46 true, mU 50 (.pick 46 49 (.c (.b false))), mM 51 50, (mF 5 52 1).g 51 true, (mL 53 52).g 51 true, (mB .geq 54 53 (.c 1)).g 51 true, mU 55 (.pick 51 54 (.c (.b false))), mM 56 55, (mF 5 57 1).g 56 true, (mL 58 57).g 56 true, (mB .leq 59 58 (.c 4096)).g 56 true, mU 60 (.pick 56 59 (.c (.b false))), mM 61 60, (mF 6 62 1).g 61 true, (mL 63 62).g 61 true, (mB .geq 64 63 (.c 1)).g 61 true, mU 65 (.pick 61 64 (.c (.b false))), mM 66 65, (mF 6 67 1).g 66 true, (mL 68 67).g 66 true, (mB .leq 69 68 (.c 100000)).g 66 true, mU 70 (.pick 66 69 (.c (.b false))), mM 71 70, (mF 7 72 1).g 71 true, (mL 73 72).g 71 true, (mB .geq 74 73 (.c 1)).g 71 true, mU 75 (.pick 71 74 (.c (.b false))), mM 76 75, (mF 7 77 1).g 76 true, (mL 78 77).g 76 true, (mB .leq 79 78 (.c 100000)).g 76 true, mU 80 (.pick 76 79 (.c (.b false))), mM 81 80, (mF 8 82 1).g 81 true, (mL 83 82).g 81 true, (mB .geq 84 83 (.c 1)).g 81 true, mU 85 (.pick 81 84 (.c (.b false))), mM 86 85, (mF 8 87 1).g 86 true, (mL 88 87).g 86 true, (mB .leq 89 88 (.c 100000)).g 86 true, mU 90 (.pick 86 89 (.c (.b false))), mM 2 90]) .ret)
def r32 : List ARes := [.t 2]
theorem k32 : compFn Tryz.prog 32 = some ⟨91, (s32).er, r32⟩ := by kernel_rfl
abbrev q32 (O : Ops Tryz.prog) := curF 1 (sfn O (s32) r32)
def g32 : { g // g = q32 } := by
  have h : q32 = q32 := rfl
  conv at h => rhs; reduce
  exact ⟨_, h.symm⟩
def C32 : T 32 := mkRun 1 (k32) (by decide) (g32.1 (theOps Tryz.prog)) (by rw [g32.2])
end
end Go.Proofs.YtjaammiblfndaaaGreatDoor
