/- A part of the proof: contracts of functions, over the abstract machine. -/
import Derived.Test.YtjaammiblfndaaaGreatDoorGzX
import Derived.Test.YtjaammiblfndaaaGreatDoorProg
import Derived.KernelRfl
set_option linter.unusedVariables false
set_option linter.unusedSimpArgs false
set_option linter.all false
/- Functions, worked out ahead of their runs: printed by a program of ours, held by the kernel. -/
namespace Go.Proofs.YtjaammiblfndaaaGreatDoor
open Ram Go
noncomputable section
set_option maxRecDepth 100000
set_option maxHeartbeats 4000000
abbrev S := SC Tryz.prog
abbrev T (n : Nat) := RunF Tryz.prog n
abbrev U := Alt Tryz.prog
def s13 : S := .seq (.reg [mK 4 0]) (.seq (.reg [mM 6 0, mM 7 1, mB .rem 8 6 7, mM 5 8]) (.join [5] [] (.seq (.reg [mM 9 5, mB .lss 10 9 (.c 0)]) (.cond 10 (.reg [mM 11 5, mM 12 1, mB .add 13 11 12, mM 5 13]) .skip)) (.seq (.reg [mM 14 5, mM 4 14]) .ret)))
def r13 : List ARes := [.t 4]
theorem k13 : compFn Tryz.prog 13 = some ⟨15, (s13).er, r13⟩ := by kernel_rfl
abbrev q13 (O : Ops Tryz.prog) := curF 2 (sfn O (s13) r13)
def g13 : { g // g = q13 } := by
  have h : q13 = q13 := rfl
  conv at h => rhs; reduce
  exact ⟨_, h.symm⟩
def C13 : T 13 := mkRun 2 (k13) (by decide) (g13.1 (theOps Tryz.prog)) (by rw [g13.2])
def s39 (c39 : T 39) : S := .seq (.reg [mK 2 (.s [])]) (.join [0] [] (.seq (.reg [mM 3 0, mB .lss 4 3 (.c 10)]) (.cond 4 (.seq (.reg [mM 5 0, mM 6 0, mB .add 7 6 (.c 1), mU 8 (.slStr (.c (.s [48, 49, 50, 51, 52, 53, 54, 55, 56, 57])) (some 5) (some 7)), mM 2 8]) .ret) .skip)) (.seq (.draw 0 [⟨[], [dP 0 9 (.mv 0) 0, dP 1 10 (.bin .quo 9 (.c 10)) 0, dP 3 12 (.mv 0) 1, dP 4 13 (.bin .rem 12 (.c 10)) 1, dP 5 14 (.mv 0) 1, dP 6 15 (.bin .rem 14 (.c 10)) 1, dP 7 16 (.bin .add 15 (.c 1)) 1, dP 8 17 (.slStr (.c (.s [48, 49, 50, 51, 52, 53, 54, 55, 56, 57])) (some 13) (some 16)) 1], some (mQ 11 39 [10] c39)⟩, ⟨[], [dP 9 18 (.bin .add 11 17) 1, dP 10 2 (.mv 18) 1], none⟩]) .ret))
def r39 : List ARes := [.t 2]
theorem k39 (c39 : T 39) : compFn Tryz.prog 39 = some ⟨19, (s39 c39).er, r39⟩ := by kernel_rfl
abbrev q39 (O : Ops Tryz.prog) (c39 : T 39) := curF 1 (sfn O (s39 c39) r39)
def g39 : { g // g = q39 } := by
  have h : q39 = q39 := rfl
  conv at h => rhs; reduce
  exact ⟨_, h.symm⟩
def C39 : RunF Tryz.prog 39 := Nat.rec (motive := fun _ => RunF Tryz.prog 39) (noC Tryz.prog 39) (fun _ ih => mkRun 1 (k39 ih) (by decide) (g39.1 (theOps Tryz.prog) ih) (by rw [g39.2])) (nat_lit 300)
def s15 (c39 : T 39) : S := .seq (.reg [mK 2 (.s [])]) (.seq (.reg [mM 3 0, mQ 4 39 [3] c39, mM 2 4]) .ret)
def r15 : List ARes := [.t 2]
theorem k15 (c39 : T 39) : compFn Tryz.prog 15 = some ⟨5, (s15 c39).er, r15⟩ := by kernel_rfl
abbrev q15 (O : Ops Tryz.prog) (c39 : T 39) := curF 1 (sfn O (s15 c39) r15)
def g15 : { g // g = q15 } := by
  have h : q15 = q15 := rfl
  conv at h => rhs; reduce
  exact ⟨_, h.symm⟩
def C15 : T 15 := mkRun 1 (k15 C39) (by decide) (g15.1 (theOps Tryz.prog) C39) (by rw [g15.2])
def s86 : S := .seq (.reg [mK 6 (.b false)]) (.seq (.reg [mM 7 0, mM 8 1, mB .geq 9 7 8, mM 10 9, (mM 11 0).g 10 true, (mM 12 2).g 10 true, (mB .leq 13 11 12).g 10 true, mU 14 (.pick 10 13 (.c (.b false))), mM 6 14]) .ret)
def r86 : List ARes := [.t 6]
theorem k86 : compFn Tryz.prog 86 = some ⟨15, (s86).er, r86⟩ := by kernel_rfl
abbrev q86 (O : Ops Tryz.prog) := curF 3 (sfn O (s86) r86)
def g86 : { g // g = q86 } := by
  have h : q86 = q86 := rfl
  conv at h => rhs; reduce
  exact ⟨_, h.symm⟩
def C86 : T 86 := mkRun 3 (k86) (by decide) (g86.1 (theOps Tryz.prog)) (by rw [g86.2])
def s40 (c86 : T 86) : S := .seq (.reg [mN 1 (.box 0), mK 2 (.b false)]) (.join [1, 3] [] (.reg [mF 0 4 1, mL 5 4, mQ 6 86 [5, .c 1, .c 64] c86, mM 7 6, (mF 1 8 1).g 7 true, (mL 9 8).g 7 true, (mQ 10 86 [9, .c 1, .c 32] c86).g 7 true, mU 11 (.pick 7 10 (.c (.b false))), mM 12 11, (mF 2 13 1).g 12 true, (mL 14 13).g 12 true, (mQ 15 86 [14, .c 0, .c 1024] c86).g 12 true, mU 16 (.pick 12 15 (.c (.b false))), mM 17 16, (mF 3 18 1).g 17 true, (mL 19 18).g 17 true, (mQ 20 86 [19, .c 0, .c 1024] c86).g 17 true, mU 21 (.pick 17 20 (.c (.b false))), mM 22 21, (mF 4 23 1).g 22 true, (mL 24 23).g 22 true, (mQ 25 86 [24, .c 1, .c 32] c86).g 22 true, mU 26 (.pick 22 25 (.c (.b false))), mM 27 26, (mF 5 28 1).g 27 true, (mL 29 28).g 27 true, (mQ 30 86 [29, .c 1, .c 4096] c86).g 27 true, mU 31 (.pick 27 30 (.c (.b false))), mM 3 31]) (.seq (.reg [mM 32 3, mM 33 32, (mF 6 34 1).g 33 true, (mL 35 34).g 33 true, (mQ 36 86 [35, .c 1, .c 100000] c86).g 33 true, mU 37 (.pick 33 36 (.c (.b false))), mM 38 37, (mF 7 39 1).g 38 true, (mL 40 39).g 38 true, (mQ 41 86 [40, .c 1, .c 100000] c86).g 38 true, mU 42 (.pick 38 41 (.c (.b false))), mM 43 42, (mF 8 44 1).g 43 true, (mL 45 44).g 43 true, (mQ 46 86 [45, .c 1, .c 100000] c86).g 43 true, mU 47 (.pick 43 46 (.c (.b false))), mM 2 47]) .ret))
def r40 : List ARes := [.t 2]
theorem k40 (c86 : T 86) : compFn Tryz.prog 40 = some ⟨48, (s40 c86).er, r40⟩ := by kernel_rfl
abbrev q40 (O : Ops Tryz.prog) (c86 : T 86) := curF 1 (sfn O (s40 c86) r40)
def g40 : { g // g = q40 } := by
  have h : q40 = q40 := rfl
  conv at h => rhs; reduce
  exact ⟨_, h.symm⟩
def C40 : T 40 := mkRun 1 (k40 C86) (by decide) (g40.1 (theOps Tryz.prog) C86) (by rw [g40.2])
def s87 : S := .seq (.reg [mK 4 0]) (.seq (.reg [mM 5 0, mM 6 1, mU 7 (.mxmn false [5, 6]), mU 8 (.mxmn true [.c 1, 7]), mM 4 8]) .ret)
def r87 : List ARes := [.t 4]
theorem k87 : compFn Tryz.prog 87 = some ⟨9, (s87).er, r87⟩ := by kernel_rfl
abbrev q87 (O : Ops Tryz.prog) := curF 2 (sfn O (s87) r87)
def g87 : { g // g = q87 } := by
  have h : q87 = q87 := rfl
  conv at h => rhs; reduce
  exact ⟨_, h.symm⟩
def C87 : T 87 := mkRun 2 (k87) (by decide) (g87.1 (theOps Tryz.prog)) (by rw [g87.2])
def s41 (c87 : T 87) : S := .seq (.reg [mK 4 (.p none)]) (.seq (.reg [mM 5 0, mQ 6 87 [5, .c 32] c87, mM 7 1, mQ 8 87 [7, .c 100000] c87, mN 9 .mkmap, mU 10 (.build [0, 0, .m none] [(0, (1, 6)), (1, (1, 8)), (2, (1, 9))]), mN 11 (.box 10), mM 4 11]) .ret)
def r41 : List ARes := [.t 4]
theorem k41 (c87 : T 87) : compFn Tryz.prog 41 = some ⟨12, (s41 c87).er, r41⟩ := by kernel_rfl
abbrev q41 (O : Ops Tryz.prog) (c87 : T 87) := curF 2 (sfn O (s41 c87) r41)
def g41 : { g // g = q41 } := by
  have h : q41 = q41 := rfl
  conv at h => rhs; reduce
  exact ⟨_, h.symm⟩
def C41 : T 41 := mkRun 2 (k41 C87) (by decide) (g41.1 (theOps Tryz.prog) C87) (by rw [g41.2])
def s88 : S := .seq (.reg [mK 4 0]) (.seq (.reg [mM 5 0, mM 6 1, mU 7 (.mxmn false [5, 6]), mU 8 (.mxmn true [.c 1, 7]), mM 4 8]) .ret)
def r88 : List ARes := [.t 4]
theorem k88 : compFn Tryz.prog 88 = some ⟨9, (s88).er, r88⟩ := by kernel_rfl
abbrev q88 (O : Ops Tryz.prog) := curF 2 (sfn O (s88) r88)
def g88 : { g // g = q88 } := by
  have h : q88 = q88 := rfl
  conv at h => rhs; reduce
  exact ⟨_, h.symm⟩
def C88 : T 88 := mkRun 2 (k88) (by decide) (g88.1 (theOps Tryz.prog)) (by rw [g88.2])
def s42 (c88 : T 88) : S := .seq (.reg [mK 4 (.p none)]) (.join [0, 1, 5] [] (.reg [mU 6 (.build [0, .i .u32 0, .i .u32 0, 0, 0, 0, 0, .p none, .p none] []), mN 7 (.box 6), mM 5 7]) (.seq (.reg [mM 8 5, mM 9 5, mM 10 5, mM 11 5, mU 12 (.nilCheck 8), mF 7 13 12, mZ (.st 1 13 10), mU 14 (.nilCheck 9), mF 8 15 14, mZ (.st 1 15 11)]) (.seq (.reg [mM 16 0, mQ 17 88 [16, .c 64] c88, mM 18 1, mQ 19 88 [18, .c 100000] c88, mM 20 5, mN 21 .mkmap, mU 22 (.build [0, 0, 0, 0, .p none, .m none] [(0, (1, 17)), (1, (1, 19)), (4, (1, 20)), (5, (1, 21))]), mN 23 (.box 22), mM 4 23]) .ret)))
def r42 : List ARes := [.t 4]
theorem k42 (c88 : T 88) : compFn Tryz.prog 42 = some ⟨24, (s42 c88).er, r42⟩ := by kernel_rfl
abbrev q42 (O : Ops Tryz.prog) (c88 : T 88) := curF 2 (sfn O (s42 c88) r42)
def g42 : { g // g = q42 } := by
  have h : q42 = q42 := rfl
  conv at h => rhs; reduce
  exact ⟨_, h.symm⟩
def C42 : T 42 := mkRun 2 (k42 C88) (by decide) (g42.1 (theOps Tryz.prog) C88) (by rw [g42.2])
def s43 : S := .seq (.reg [mK 2 (.p none)]) (.join [3] [] (.reg [mM 5 0, mU 6 (.mxmn false [5, .c 100000]), mU 7 (.mxmn true [.c 1, 6]), mN 3 (.newz [0]), mZ (.st 1 3 7)]) (.seq (.reg [mU 8 (.build [0, .nf, .sl 0 none 0 0] []), mN 9 (.box 8), mN 4 (.newz [.p none]), mZ (.st 1 4 9)]) (.seq (.reg [mL 10 4, mU 11 (.mkFunc 89 [] [4, 3]), mU 12 (.nilCheck 10), mF 1 13 12, mZ (.st 1 13 11)]) (.seq (.reg [mL 14 4, mM 2 14]) .ret))))
def r43 : List ARes := [.t 2]
theorem k43 : compFn Tryz.prog 43 = some ⟨15, (s43).er, r43⟩ := by kernel_rfl
abbrev q43 (O : Ops Tryz.prog) := curF 1 (sfn O (s43) r43)
def g43 : { g // g = q43 } := by
  have h : q43 = q43 := rfl
  conv at h => rhs; reduce
  exact ⟨_, h.symm⟩
def C43 : T 43 := mkRun 1 (k43) (by decide) (g43.1 (theOps Tryz.prog)) (by rw [g43.2])
def s17 (c40 : T 40) (c41 : T 41) (c42 : T 42) (c43 : T 43) : S := .seq (.reg [mN 1 (.box 0), mK 2 (.p none), mK 3 0]) (.join [1] [] (.seq (.reg [mR 4 (.ldN 9 1), mQ 5 40 [4] c40, mU 6 (.un .not 5)]) (.cond 6 (.seq (.reg [mK 2 (.p none), mK 3 1]) .ret) .skip)) (.seq (.draw 19 [⟨[], [dR 0 7 (.ldN 9 1) 3, dP 1 8 (.fieldAddr 1 1) 0, dR 2 9 (.ld1 8) 0, dP 3 10 (.fieldAddr 7 1) 0, dR 4 11 (.ld1 10) 0, dP 6 13 (.fieldAddr 0 1) 1, dR 7 14 (.ld1 13) 1, dP 8 15 (.fieldAddr 6 1) 1, dR 9 16 (.ld1 15) 1, dP 11 18 (.fieldAddr 8 1) 2, dR 12 19 (.ld1 18) 2, ⟨14, ⟨some 21, .alloc .mkmap, none⟩, 3⟩], some (mQ 12 41 [9, 11] c41)⟩, ⟨[⟨some 7, .read (.ldN 9 1), none⟩, ⟨some 14, .read (.ld1 13), none⟩, ⟨some 16, .read (.ld1 15), none⟩, ⟨some 19, .read (.ld1 18), none⟩], [], some (mQ 17 42 [14, 16] c42)⟩, ⟨[⟨some 7, .read (.ldN 9 1), none⟩, ⟨some 19, .read (.ld1 18), none⟩], [], some (mQ 20 43 [19] c43)⟩, ⟨[⟨some 7, .read (.ldN 9 1), none⟩], [dP 15 22 (.build [0, 0, 0, 0, 0, 0, 0, 0, 0, .sl 0 none 0 0, 0, .p none, .p none, .p none, .m none, 0, 0, 0, 0, 0, 0, 0, 0, 0, 0, 0, 0, 0, 0] [(0, (9, 7)), (10, (1, .c 1)), (11, (1, 12)), (12, (1, 17)), (13, (1, 20)), (14, (1, 21))]) 3, ⟨16, ⟨some 23, .alloc (.box 22), none⟩, 3⟩, dP 17 2 (.mv 23) 3, dP 18 3 (.mv (.c 0)) 3], none⟩]) .ret))
def r17 : List ARes := [.t 2, .t 3]
theorem k17 (c40 : T 40) (c41 : T 41) (c42 : T 42) (c43 : T 43) : compFn Tryz.prog 17 = some ⟨24, (s17 c40 c41 c42 c43).er, r17⟩ := by kernel_rfl
abbrev q17 (O : Ops Tryz.prog) (c40 : T 40) (c41 : T 41) (c42 : T 42) (c43 : T 43) := curF 1 (sfn O (s17 c40 c41 c42 c43) r17)
def g17 : { g // g = q17 } := by
  have h : q17 = q17 := rfl
  conv at h => rhs; reduce
  exact ⟨_, h.symm⟩
def C17 : T 17 := mkRun 1 (k17 C40 C41 C42 C43) (by decide) (g17.1 (theOps Tryz.prog) C40 C41 C42 C43) (by rw [g17.2])
def s328 : S := .seq (.reg [mK 2 0]) (.seq (.seq (.reg [mM 3 0, mN 4 (.rangeS 3)]) (.block 0 (.loop [2] [4] (.seq (.reg [mY 5 (.nextS 4), mU 6 (.extract 0 5)]) (.seq (.cond 6 .skip (.exit 0)) (.block 1 (.reg [mM 7 2, mB .add 8 7 (.c 1), mM 2 8]))))))) (.seq (.reg [mM 9 2, mM 2 9]) .ret))
def r328 : List ARes := [.t 2]
theorem k328 : compFn Tryz.prog 328 = some ⟨10, (s328).er, r328⟩ := by kernel_rfl
abbrev q328 (O : Ops Tryz.prog) := curF 1 (sfn O (s328) r328)
def g328 : { g // g = q328 } := by
  have h : q328 = q328 := rfl
  conv at h => rhs; reduce
  exact ⟨_, h.symm⟩
def C328 : T 328 := mkRun 1 (k328) (by decide) (g328.1 (theOps Tryz.prog)) (by rw [g328.2])
def s329 : S := .seq (.reg [mK 2 (.i .i32 0), mK 3 0]) (.seq (.seq (.reg [mM 4 0, mB .neq 5 4 (.c (.s [])), mM 6 5, (mM 7 0).g 6 true, (mU 8 (.idxStr 7 (.c 0))).g 6 true, (mB .lss 9 8 (.c (.i .u8 128))).g 6 true, mU 10 (.pick 6 9 (.c (.b false)))]) (.cond 10 (.seq (.reg [mM 11 0, mU 12 (.idxStr 11 (.c 0)), mU 13 (.conv .i32 12), mM 2 13, mK 3 1]) .ret) (.reg [mM 15 0, mQ 16 365 [15] (noC _ 365), mM 14 16, mU 17 (.extract 0 14), mU 18 (.extract 1 14), mM 2 17, mM 3 18]))) .ret)
def r329 : List ARes := [.t 2, .t 3]
theorem k329 : compFn Tryz.prog 329 = some ⟨19, (s329).er, r329⟩ := by kernel_rfl
abbrev q329 (O : Ops Tryz.prog) := curF 1 (sfn O (s329) r329)
def g329 : { g // g = q329 } := by
  have h : q329 = q329 := rfl
  conv at h => rhs; reduce
  exact ⟨_, h.symm⟩
def C329 : T 329 := mkRun 1 (k329) (by decide) (g329.1 (theOps Tryz.prog)) (by rw [g329.2])
def s278 (c328 : T 328) (c329 : T 329) : S := .seq (.reg [mK 4 (.sl 0 none 0 0)]) (.seq (.reg [mM 10 0, mQ 11 328 [10] c328, mM 5 11]) (.join [0, 1] [] (.seq (.reg [mM 12 1, mB .lss 13 12 (.c 0), mM 14 13, (mM 15 1).g 14 false, (mM 16 5).g 14 false, (mB .gtr 17 15 16).g 14 false, mU 18 (.pick 14 (.c (.b true)) 17)]) (.cond 18 (.reg [mM 19 5, mM 1 19]) .skip)) (.seq (.reg [mM 20 1, mN 21 (.mkslice 1 16 [.s []] 20 20), mM 6 21]) (.seq (.seq (.reg [mK 7 0]) (.block 0 (.loop [0, 7] [1, 6] (.seq (.seq (.reg [mM 22 7, mM 23 1, mB .sub 24 23 (.c 1), mB .lss 25 22 24]) (.cond 25 .skip (.exit 0))) (.seq (.block 1 (.seq (.reg [mM 29 0, mQ 30 329 [29] c329, mM 28 30, mU 31 (.extract 0 28), mU 32 (.extract 1 28), mM 8 31, mM 9 32]) (.seq (.reg [mM 33 6, mM 34 7, mM 35 0, mM 36 9, mU 37 (.slStr 35 none (some 36)), mU 38 (.idxAddrSl 1 33 34), mZ (.st 1 38 37)]) (.reg [mM 39 0, mM 40 9, mU 41 (.slStr 39 (some 40) none), mM 0 41])))) (.reg [mM 26 7, mB .add 27 26 (.c 1), mM 7 27])))))) (.join [6] [] (.seq (.reg [mM 42 1, mB .gtr 43 42 (.c 0)]) (.cond 43 (.reg [mM 44 6, mM 45 1, mB .sub 46 45 (.c 1), mM 47 0, mU 48 (.idxAddrSl 1 44 46), mZ (.st 1 48 47)]) .skip)) (.seq (.reg [mM 49 6, mM 4 49]) .ret))))))
def r278 : List ARes := [.t 4]
theorem k278 (c328 : T 328) (c329 : T 329) : compFn Tryz.prog 278 = some ⟨50, (s278 c328 c329).er, r278⟩ := by kernel_rfl
abbrev q278 (O : Ops Tryz.prog) (c328 : T 328) (c329 : T 329) := curF 2 (sfn O (s278 c328 c329) r278)
def g278 : { g // g = q278 } := by
  have h : q278 = q278 := rfl
  conv at h => rhs; reduce
  exact ⟨_, h.symm⟩
def C278 : T 278 := mkRun 2 (k278 C328 C329) (by decide) (g278.1 (theOps Tryz.prog) C328 C329) (by rw [g278.2])
def s280 (c331 : T 331) : S := .seq (.reg [mK 4 0]) (.seq (.reg [mM 5 0, mM 6 1, mQ 7 331 [5, 6] c331, mM 4 7]) .ret)
def r280 : List ARes := [.t 4]
theorem k280 (c331 : T 331) : compFn Tryz.prog 280 = some ⟨8, (s280 c331).er, r280⟩ := by kernel_rfl
abbrev q280 (O : Ops Tryz.prog) (c331 : T 331) := curF 2 (sfn O (s280 c331) r280)
def g280 : { g // g = q280 } := by
  have h : q280 = q280 := rfl
  conv at h => rhs; reduce
  exact ⟨_, h.symm⟩
def C280 : T 280 := mkRun 2 (k280 C331) (by decide) (g280.1 (theOps Tryz.prog) C331) (by rw [g280.2])
def s212 (c278 : T 278) (c279 : T 279) (c280 : T 280) : S := .seq (.reg [mK 8 (.sl 0 none 0 0)]) (.seq (.seq (.reg [mM 12 3, mB .eql 13 12 (.c 0)]) (.cond 13 (.seq (.reg [mK 8 (.sl 0 none 0 0)]) .ret) .skip)) (.join [0, 1, 2, 3] [] (.seq (.reg [mM 14 1, mB .eql 15 14 (.c (.s []))]) (.cond 15 (.seq (.reg [mM 16 0, mM 17 3, mQ 18 278 [16, 17] c278, mM 8 18]) .ret) .skip)) (.join [0, 1, 2, 3] [] (.seq (.reg [mM 19 3, mB .lss 20 19 (.c 0)]) (.cond 20 (.reg [mM 21 0, mM 22 1, mQ 23 279 [21, 22] c279, mB .add 24 23 (.c 1), mM 3 24]) .skip)) (.join [0, 1, 2, 3] [] (.reg [mM 25 3, mM 26 0, mU 27 (.lenS 26), mB .add 28 27 (.c 1), mU 29 (.mxmn false [25, 28]), mM 3 29]) (.seq (.reg [mM 30 3, mN 31 (.mkslice 1 16 [.s []] 30 30), mM 9 31]) (.seq (.reg [mM 32 3, mB .sub 33 32 (.c 1), mM 3 33]) (.seq (.reg [mK 10 0]) (.join [0, 9, 10] [] (.block 0 (.loop [0, 10] [1, 2, 3, 9] (.seq (.seq (.reg [mM 34 10, mM 35 3, mB .lss 36 34 35]) (.cond 36 .skip (.exit 0))) (.block 1 (.seq (.reg [mM 37 0, mM 38 1, mQ 39 280 [37, 38] c280, mM 11 39]) (.seq (.seq (.reg [mM 40 11, mB .lss 41 40 (.c 0)]) (.cond 41 (.exit 0) .skip)) (.seq (.reg [mM 42 9, mM 43 10, mM 44 0, mM 45 11, mM 46 2, mB .add 47 45 46, mU 48 (.slStr 44 none (some 47)), mU 49 (.idxAddrSl 1 42 43), mZ (.st 1 49 48)]) (.seq (.reg [mM 50 0, mM 51 11, mM 52 1, mU 53 (.lenS 52), mB .add 54 51 53, mU 55 (.slStr 50 (some 54) none), mM 0 55]) (.reg [mM 56 10, mB .add 57 56 (.c 1), mM 10 57]))))))))) (.seq (.reg [mM 58 9, mM 59 10, mM 60 0, mU 61 (.idxAddrSl 1 58 59), mZ (.st 1 61 60)]) (.seq (.reg [mM 62 9, mM 63 10, mB .add 64 63 (.c 1), mU 65 (.slSl 1 62 none (some 64) none), mM 8 65]) .ret))))))))))
def r212 : List ARes := [.t 8]
theorem k212 (c278 : T 278) (c279 : T 279) (c280 : T 280) : compFn Tryz.prog 212 = some ⟨66, (s212 c278 c279 c280).er, r212⟩ := by kernel_rfl
abbrev q212 (O : Ops Tryz.prog) (c278 : T 278) (c279 : T 279) (c280 : T 280) := curF 4 (sfn O (s212 c278 c279 c280) r212)
def g212 : { g // g = q212 } := by
  have h : q212 = q212 := rfl
  conv at h => rhs; reduce
  exact ⟨_, h.symm⟩
def C212 : T 212 := mkRun 4 (k212 C278 C279 C280) (by decide) (g212.1 (theOps Tryz.prog) C278 C279 C280) (by rw [g212.2])
def s139 (c212 : T 212) : S := .seq (.reg [mK 4 (.sl 0 none 0 0)]) (.seq (.reg [mM 5 0, mM 6 1, mQ 7 212 [5, 6, .c 0, .c (.i .i64 (-1))] c212, mM 4 7]) .ret)
def r139 : List ARes := [.t 4]
theorem k139 (c212 : T 212) : compFn Tryz.prog 139 = some ⟨8, (s139 c212).er, r139⟩ := by kernel_rfl
abbrev q139 (O : Ops Tryz.prog) (c212 : T 212) := curF 2 (sfn O (s139 c212) r139)
def g139 : { g // g = q139 } := by
  have h : q139 = q139 := rfl
  conv at h => rhs; reduce
  exact ⟨_, h.symm⟩
def C139 : T 139 := mkRun 2 (k139 C212) (by decide) (g139.1 (theOps Tryz.prog) C212) (by rw [g139.2])
def s74 (c139 : T 139) : S := .seq (.reg [mK 2 (.sl 0 none 0 0)]) (.seq (.reg [mM 4 0, mQ 5 139 [4, .c (.s [10])] c139, mM 3 5]) (.join [3] [] (.seq (.reg [mM 6 3, mM 7 3, mU 8 (.lenSl 7), mB .sub 9 8 (.c 1), mU 10 (.idxAddrSl 1 6 9), mL 11 10, mB .eql 12 11 (.c (.s []))]) (.cond 12 (.reg [mM 13 3, mM 14 3, mU 15 (.lenSl 14), mB .sub 16 15 (.c 1), mU 17 (.slSl 1 13 none (some 16) none), mM 3 17]) .skip)) (.seq (.reg [mM 18 3, mM 2 18]) .ret)))
def r74 : List ARes := [.t 2]
theorem k74 (c139 : T 139) : compFn Tryz.prog 74 = some ⟨19, (s74 c139).er, r74⟩ := by kernel_rfl
abbrev q74 (O : Ops Tryz.prog) (c139 : T 139) := curF 1 (sfn O (s74 c139) r74)
def g74 : { g // g = q74 } := by
  have h : q74 = q74 := rfl
  conv at h => rhs; reduce
  exact ⟨_, h.symm⟩
def C74 : T 74 := mkRun 1 (k74 C139) (by decide) (g74.1 (theOps Tryz.prog) C139) (by rw [g74.2])
def s140 (c139 : T 139) : S := .seq (.reg [mK 2 (.sl 0 none 0 0)]) (.seq (.reg [mK 3 (.sl 0 none 0 0)]) (.seq (.seq (.reg [mM 6 0, mQ 7 139 [6, .c (.s [32])] c139, mU 8 (.lenSl 7), mK 9 0]) (.block 0 (.loop [3, 9] [7, 8] (.seq (.reg [mB .lss 10 9 8]) (.seq (.cond 10 .skip (.exit 0)) (.join [3, 7, 8, 9] [] (.block 1 (.seq (.reg [mU 11 (.idxAddrSl 1 7 9), mL 12 11, mM 5 12]) (.seq (.reg [mM 13 5, mB .neq 14 13 (.c (.s []))]) (.cond 14 (.reg [mM 15 3, mM 16 5, mN 17 (.bslice 1 1 [.s []] [(0, (1, 16))]), mY 18 (.append 1 16 15 17), mM 3 18]) .skip)))) (.reg [mB .add 19 9 (.c 1), mM 9 19]))))))) (.seq (.reg [mM 20 3, mM 2 20]) .ret)))
def r140 : List ARes := [.t 2]
theorem k140 (c139 : T 139) : compFn Tryz.prog 140 = some ⟨21, (s140 c139).er, r140⟩ := by kernel_rfl
abbrev q140 (O : Ops Tryz.prog) (c139 : T 139) := curF 1 (sfn O (s140 c139) r140)
def g140 : { g // g = q140 } := by
  have h : q140 = q140 := rfl
  conv at h => rhs; reduce
  exact ⟨_, h.symm⟩
def C140 : T 140 := mkRun 1 (k140 C139) (by decide) (g140.1 (theOps Tryz.prog) C139) (by rw [g140.2])
def s75 (c140 : T 140) : S := .seq (.reg [mK 4 (.b false)]) (.seq (.reg [mM 6 0, mQ 7 140 [6] c140, mM 5 7]) (.seq (.reg [mM 8 5, mU 9 (.lenSl 8), mB .eql 10 9 (.c 1), mM 11 10, (mM 12 5).g 11 true, (mU 13 (.idxAddrSl 1 12 (.c 0))).g 11 true, (mL 14 13).g 11 true, (mM 15 1).g 11 true, (mB .eql 16 14 15).g 11 true, mU 17 (.pick 11 16 (.c (.b false))), mM 4 17]) .ret))
def r75 : List ARes := [.t 4]
theorem k75 (c140 : T 140) : compFn Tryz.prog 75 = some ⟨18, (s75 c140).er, r75⟩ := by kernel_rfl
abbrev q75 (O : Ops Tryz.prog) (c140 : T 140) := curF 2 (sfn O (s75 c140) r75)
def g75 : { g // g = q75 } := by
  have h : q75 = q75 := rfl
  conv at h => rhs; reduce
  exact ⟨_, h.symm⟩
def C75 : T 75 := mkRun 2 (k75 C140) (by decide) (g75.1 (theOps Tryz.prog) C140) (by rw [g75.2])
def s226 : S := .seq (.reg [mK 2 (.i .i32 0)]) (.seq (.seq (.reg [mM 5 0, mN 6 (.rangeS 5)]) (.block 0 (.loop [] [6] (.seq (.reg [mY 7 (.nextS 6), mU 8 (.extract 0 7)]) (.seq (.cond 8 .skip (.exit 0)) (.block 1 (.seq (.reg [mU 9 (.extract 2 7), mM 4 9]) (.seq (.reg [mM 10 4, mM 2 10]) .ret)))))))) (.seq (.reg [mK 2 (.i .i32 0)]) .ret))
def r226 : List ARes := [.t 2]
theorem k226 : compFn Tryz.prog 226 = some ⟨11, (s226).er, r226⟩ := by kernel_rfl
abbrev q226 (O : Ops Tryz.prog) := curF 1 (sfn O (s226) r226)
def g226 : { g // g = q226 } := by
  have h : q226 = q226 := rfl
  conv at h => rhs; reduce
  exact ⟨_, h.symm⟩
def C226 : T 226 := mkRun 1 (k226) (by decide) (g226.1 (theOps Tryz.prog)) (by rw [g226.2])
def s227 : S := .seq (.reg [mK 2 (.b false)]) (.seq (.reg [mM 3 0, mB .eql 4 3 (.c (.i .i32 32)), mM 5 4, (mM 6 0).g 5 false, (mB .eql 7 6 (.c (.i .i32 9))).g 5 false, mU 8 (.pick 5 (.c (.b true)) 7), mM 9 8, (mM 10 0).g 9 false, (mB .eql 11 10 (.c (.i .i32 13))).g 9 false, mU 12 (.pick 9 (.c (.b true)) 11), mM 2 12]) .ret)
def r227 : List ARes := [.t 2]
theorem k227 : compFn Tryz.prog 227 = some ⟨13, (s227).er, r227⟩ := by kernel_rfl
abbrev q227 (O : Ops Tryz.prog) := curF 1 (sfn O (s227) r227)
def g227 : { g // g = q227 } := by
  have h : q227 = q227 := rfl
  conv at h => rhs; reduce
  exact ⟨_, h.symm⟩
def C227 : T 227 := mkRun 1 (k227) (by decide) (g227.1 (theOps Tryz.prog)) (by rw [g227.2])
def s228 : S := .seq (.reg [mK 4 (.s [])]) (.seq (.reg [mM 6 0, mU 7 (.nilCheck 6), mF 0 8 7, mL 9 8, mM 10 1, mU 11 (.slStr 9 none (some 10)), mM 5 11]) (.seq (.reg [mM 12 0, mM 13 0, mU 14 (.nilCheck 13), mF 0 15 14, mL 16 15, mM 17 1, mU 18 (.slStr 16 (some 17) none), mU 19 (.nilCheck 12), mF 0 20 19, mZ (.st 1 20 18)]) (.seq (.reg [mM 21 5, mM 4 21]) .ret)))
def r228 : List ARes := [.t 4]
theorem k228 : compFn Tryz.prog 228 = some ⟨22, (s228).er, r228⟩ := by kernel_rfl
abbrev q228 (O : Ops Tryz.prog) := curF 2 (sfn O (s228) r228)
def g228 : { g // g = q228 } := by
  have h : q228 = q228 := rfl
  conv at h => rhs; reduce
  exact ⟨_, h.symm⟩
def C228 : T 228 := mkRun 2 (k228) (by decide) (g228.1 (theOps Tryz.prog)) (by rw [g228.2])
def s230 : S := .seq (.reg [mK 2 (.b false)]) (.seq (.reg [mM 3 0, mB .neq 4 3 (.c (.i .i32 10)), mM 2 4]) .ret)
def r230 : List ARes := [.t 2]
theorem k230 : compFn Tryz.prog 230 = some ⟨5, (s230).er, r230⟩ := by kernel_rfl
abbrev q230 (O : Ops Tryz.prog) := curF 1 (sfn O (s230) r230)
def g230 : { g // g = q230 } := by
  have h : q230 = q230 := rfl
  conv at h => rhs; reduce
  exact ⟨_, h.symm⟩
def C230 : T 230 := mkRun 1 (k230) (by decide) (g230.1 (theOps Tryz.prog)) (by rw [g230.2])
def A230 : U := ⟨230, C230⟩
def s233 : S := .seq (.reg [mK 2 (.b false)]) (.seq (.reg [mM 3 0, mB .geq 4 3 (.c (.i .i32 48)), mM 5 4, (mM 6 0).g 5 true, (mB .leq 7 6 (.c (.i .i32 57))).g 5 true, mU 8 (.pick 5 7 (.c (.b false))), mM 2 8]) .ret)
def r233 : List ARes := [.t 2]
theorem k233 : compFn Tryz.prog 233 = some ⟨9, (s233).er, r233⟩ := by kernel_rfl
abbrev q233 (O : Ops Tryz.prog) := curF 1 (sfn O (s233) r233)
def g233 : { g // g = q233 } := by
  have h : q233 = q233 := rfl
  conv at h => rhs; reduce
  exact ⟨_, h.symm⟩
def C233 : T 233 := mkRun 1 (k233) (by decide) (g233.1 (theOps Tryz.prog)) (by rw [g233.2])
def A233 : U := ⟨233, C233⟩
def s231 : S := .seq (.reg [mK 2 (.b false)]) (.seq (.reg [mM 3 0, mB .geq 4 3 (.c (.i .i32 97)), mM 5 4, (mM 6 0).g 5 true, (mB .leq 7 6 (.c (.i .i32 122))).g 5 true, mU 8 (.pick 5 7 (.c (.b false))), mM 9 8, (mM 10 0).g 9 false, (mB .geq 11 10 (.c (.i .i32 65))).g 9 false, (mM 12 11).g 9 false, (mM 13 0).g 12 true, (mB .leq 14 13 (.c (.i .i32 90))).g 12 true, (mU 15 (.pick 12 14 (.c (.b false)))).g 9 false, mU 16 (.pick 9 (.c (.b true)) 15), mM 2 16]) .ret)
def r231 : List ARes := [.t 2]
theorem k231 : compFn Tryz.prog 231 = some ⟨17, (s231).er, r231⟩ := by kernel_rfl
abbrev q231 (O : Ops Tryz.prog) := curF 1 (sfn O (s231) r231)
def g231 : { g // g = q231 } := by
  have h : q231 = q231 := rfl
  conv at h => rhs; reduce
  exact ⟨_, h.symm⟩
def C231 : T 231 := mkRun 1 (k231) (by decide) (g231.1 (theOps Tryz.prog)) (by rw [g231.2])
def s294 (c231 : T 231) (c233 : T 233) : S := .seq (.reg [mK 2 (.b false)]) (.seq (.reg [mM 3 0, mQ 4 231 [3] c231, mM 5 4, (mM 6 0).g 5 false, (mQ 7 233 [6] c233).g 5 false, mU 8 (.pick 5 (.c (.b true)) 7), mM 2 8]) .ret)
def r294 : List ARes := [.t 2]
theorem k294 (c231 : T 231) (c233 : T 233) : compFn Tryz.prog 294 = some ⟨9, (s294 c231 c233).er, r294⟩ := by kernel_rfl
abbrev q294 (O : Ops Tryz.prog) (c231 : T 231) (c233 : T 233) := curF 1 (sfn O (s294 c231 c233) r294)
def g294 : { g // g = q294 } := by
  have h : q294 = q294 := rfl
  conv at h => rhs; reduce
  exact ⟨_, h.symm⟩
def C294 : T 294 := mkRun 1 (k294 C231 C233) (by decide) (g294.1 (theOps Tryz.prog) C231 C233) (by rw [g294.2])
def A294 : U := ⟨294, C294⟩
def s229 (a230 : U) (a233 : U) (a294 : U) : S := .seq (.reg [mK 4 0]) (.seq (.seq (.reg [mM 7 0, mN 8 (.rangeS 7)]) (.block 0 (.loop [] [0, 1, 8] (.seq (.reg [mY 9 (.nextS 8), mU 10 (.extract 0 9)]) (.seq (.cond 10 .skip (.exit 0)) (.block 1 (.seq (.reg [mU 11 (.extract 1 9), mU 12 (.extract 2 9), mM 5 11, mM 6 12]) (.seq (.reg [mM 13 1, mM 14 6, mV 15 13 [14] [a230, a233, a294] [], mU 16 (.un .not 15)]) (.cond 16 (.seq (.reg [mM 17 5, mM 4 17]) .ret) .skip))))))))) (.seq (.reg [mM 18 0, mU 19 (.lenS 18), mM 4 19]) .ret))
def r229 : List ARes := [.t 4]
theorem k229 (a230 : U) (a233 : U) (a294 : U) : compFn Tryz.prog 229 = some ⟨20, (s229 a230 a233 a294).er, r229⟩ := by kernel_rfl
abbrev q229 (O : Ops Tryz.prog) (a230 : U) (a233 : U) (a294 : U) := curF 2 (sfn O (s229 a230 a233 a294) r229)
def g229 : { g // g = q229 } := by
  have h : q229 = q229 := rfl
  conv at h => rhs; reduce
  exact ⟨_, h.symm⟩
def C229 : T 229 := mkRun 2 (k229 A230 A233 A294) (by decide) (g229.1 (theOps Tryz.prog) A230 A233 A294) (by rw [g229.2])
def s295 : S := .draw 18 [⟨[], [dP 0 8 (.mv 0) 1, dP 1 9 (.mv 0) 0, dP 2 10 (.nilCheck 9) 0, dP 3 11 (.fieldAddr 2 10) 0, dR 4 12 (.ld1 11) 0, dP 5 13 (.mv 1) 0, dP 6 14 (.mv 2) 0, dP 7 15 (.mv 3) 0, dP 8 16 (.mv 0) 0, dP 9 17 (.nilCheck 16) 0, dP 10 18 (.fieldAddr 1 17) 0, dR 11 19 (.ld1 18) 0, dP 12 20 (.build [0, .s [], 0, 0] [(0, (1, 13)), (1, (1, 14)), (2, (1, 15)), (3, (1, 19))]) 0, ⟨13, ⟨some 21, .alloc (.bslice 4 1 [0, .s [], 0, 0] [(0, (4, 20))]), none⟩, 0⟩], some (mY 22 (.append 4 40 12 21))⟩, ⟨[], [dP 15 23 (.nilCheck 8) 1, dP 16 24 (.fieldAddr 2 23) 1], some (mZ (.st 1 24 22))⟩, ⟨[], [], none⟩]
def r295 : List ARes := []
theorem k295 : compFn Tryz.prog 295 = some ⟨25, (s295).er, r295⟩ := by kernel_rfl
abbrev q295 (O : Ops Tryz.prog) := curF 4 (sfn O (s295) r295)
def g295 : { g // g = q295 } := by
  have h : q295 = q295 := rfl
  conv at h => rhs; reduce
  exact ⟨_, h.symm⟩
def C295 : T 295 := mkRun 4 (k295) (by decide) (g295.1 (theOps Tryz.prog)) (by rw [g295.2])
def s232 (c226 : T 226) (c228 : T 228) (c229 : T 229) (c231 : T 231) (c295 : T 295) (c296 : T 296) : S := .seq (.reg [mK 4 (.b false)]) (.seq (.seq (.reg [mM 6 0, mU 7 (.nilCheck 6), mF 0 8 7, mL 9 8, mQ 10 226 [9] c226, mQ 11 231 [10] c231, mU 12 (.un .not 11)]) (.cond 12 (.seq (.reg [mK 4 (.b false)]) .ret) .skip)) (.seq (.reg [mM 13 0, mM 14 0, mU 15 (.nilCheck 14), mF 0 16 15, mL 17 16, mQ 18 229 [17, .fn 294] c229, mQ 19 228 [13, 18] c228, mM 5 19]) (.seq (.reg [mM 20 0, mM 21 1, mM 22 5, mQ 23 296 [22] c296, mQ 24 295 [20, 21, 23, .c 0] c295]) (.seq (.reg [mM 25 5, mU 26 (.lenS 25), mB .leq 27 26 (.c 20), mM 4 27]) .ret))))
def r232 : List ARes := [.t 4]
theorem k232 (c226 : T 226) (c228 : T 228) (c229 : T 229) (c231 : T 231) (c295 : T 295) (c296 : T 296) : compFn Tryz.prog 232 = some ⟨28, (s232 c226 c228 c229 c231 c295 c296).er, r232⟩ := by kernel_rfl
abbrev q232 (O : Ops Tryz.prog) (c226 : T 226) (c228 : T 228) (c229 : T 229) (c231 : T 231) (c295 : T 295) (c296 : T 296) := curF 2 (sfn O (s232 c226 c228 c229 c231 c295 c296) r232)
def g232 : { g // g = q232 } := by
  have h : q232 = q232 := rfl
  conv at h => rhs; reduce
  exact ⟨_, h.symm⟩
def C232 : T 232 := mkRun 2 (k232 C226 C228 C229 C231 C295 C296) (by decide) (g232.1 (theOps Tryz.prog) C226 C228 C229 C231 C295 C296) (by rw [g232.2])
def s234 (c226 : T 226) (c228 : T 228) (c229 : T 229) (c231 : T 231) (c295 : T 295) : S := .seq (.reg [mK 2 (.b false)]) (.seq (.reg [mK 3 0]) (.seq (.seq (.reg [mM 6 0, mM 7 0, mU 8 (.nilCheck 7), mF 0 9 8, mL 10 9, mQ 11 229 [10, .fn 233] c229, mQ 12 228 [6, 11] c228, mN 13 (.rangeS 12)]) (.block 0 (.loop [3] [0, 13] (.seq (.reg [mY 14 (.nextS 13), mU 15 (.extract 0 14)]) (.seq (.cond 15 .skip (.exit 0)) (.block 1 (.seq (.reg [mU 16 (.extract 2 14), mM 5 16]) (.reg [mM 17 3, mB .mul 18 17 (.c 10), mM 19 5, mB .sub 20 19 (.c (.i .i32 48)), mU 21 (.conv .i64 20), mB .add 22 18 21, mU 23 (.mxmn false [22, .c 1000000000000]), mM 3 23])))))))) (.seq (.reg [mM 24 0, mM 25 3, mQ 26 295 [24, .c 2, .c (.s []), 25] c295]) (.seq (.reg [mM 27 3, mB .leq 28 27 (.c 999999999999), mM 29 28, (mM 30 0).g 29 true, (mU 31 (.nilCheck 30)).g 29 true, (mF 0 32 31).g 29 true, (mL 33 32).g 29 true, (mQ 34 226 [33] c226).g 29 true, (mQ 35 231 [34] c231).g 29 true, (mU 36 (.un .not 35)).g 29 true, mU 37 (.pick 29 36 (.c (.b false))), mM 2 37]) .ret))))
def r234 : List ARes := [.t 2]
theorem k234 (c226 : T 226) (c228 : T 228) (c229 : T 229) (c231 : T 231) (c295 : T 295) : compFn Tryz.prog 234 = some ⟨38, (s234 c226 c228 c229 c231 c295).er, r234⟩ := by kernel_rfl
abbrev q234 (O : Ops Tryz.prog) (c226 : T 226) (c228 : T 228) (c229 : T 229) (c231 : T 231) (c295 : T 295) := curF 1 (sfn O (s234 c226 c228 c229 c231 c295) r234)
def g234 : { g // g = q234 } := by
  have h : q234 = q234 := rfl
  conv at h => rhs; reduce
  exact ⟨_, h.symm⟩
def C234 : T 234 := mkRun 1 (k234 C226 C228 C229 C231 C295) (by decide) (g234.1 (theOps Tryz.prog) C226 C228 C229 C231 C295) (by rw [g234.2])
def s342 (c233 : T 233) : S := .seq (.reg [mK 2 0]) (.seq (.block 0 (.seq (.reg [mM 4 0, mQ 5 233 [4] c233, mM 3 5]) (.cond 3 (.seq (.reg [mM 6 0, mB .sub 7 6 (.c (.i .i32 48)), mU 8 (.conv .i64 7), mM 2 8]) .ret) (.seq (.reg [mM 10 0, mB .geq 11 10 (.c (.i .i32 97)), mM 12 11, (mM 13 0).g 12 true, (mB .leq 14 13 (.c (.i .i32 102))).g 12 true, mU 15 (.pick 12 14 (.c (.b false))), mM 9 15]) (.cond 9 (.seq (.reg [mM 16 0, mB .sub 17 16 (.c (.i .i32 97)), mU 18 (.conv .i64 17), mB .add 19 18 (.c 10), mM 2 19]) .ret) (.seq (.reg [mM 21 0, mB .geq 22 21 (.c (.i .i32 65)), mM 23 22, (mM 24 0).g 23 true, (mB .leq 25 24 (.c (.i .i32 70))).g 23 true, mU 26 (.pick 23 25 (.c (.b false))), mM 20 26]) (.cond 20 (.seq (.reg [mM 27 0, mB .sub 28 27 (.c (.i .i32 65)), mU 29 (.conv .i64 28), mB .add 30 29 (.c 10), mM 2 30]) .ret) .skip))))))) (.seq (.reg [mK 2 (.i .i64 (-1))]) .ret))
def r342 : List ARes := [.t 2]
theorem k342 (c233 : T 233) : compFn Tryz.prog 342 = some ⟨31, (s342 c233).er, r342⟩ := by kernel_rfl
abbrev q342 (O : Ops Tryz.prog) (c233 : T 233) := curF 1 (sfn O (s342 c233) r342)
def g342 : { g // g = q342 } := by
  have h : q342 = q342 := rfl
  conv at h => rhs; reduce
  exact ⟨_, h.symm⟩
def C342 : T 342 := mkRun 1 (k342 C233) (by decide) (g342.1 (theOps Tryz.prog) C233) (by rw [g342.2])
def s297 (c228 : T 228) (c342 : T 342) : S := .seq (.reg [mK 4 (.sl 0 none 0 0), mK 5 (.b false)]) (.seq (.reg [mK 6 (.i .i64 (-1)), mK 7 (.b false)]) (.seq (.join [0, 1, 6, 7, 15] [] (.reg [mM 11 0, mU 12 (.nilCheck 11), mF 0 13 12, mL 14 13, mN 15 (.rangeS 14)]) (.block 0 (.loop [1, 6, 7] [0, 15] (.join [0, 1, 6, 7, 15, 16, 17] [] (.reg [mY 16 (.nextS 15), mU 17 (.extract 0 16)]) (.seq (.cond 17 .skip (.exit 0)) (.block 1 (.join [0, 1, 6, 7, 8, 9, 15] [] (.reg [mU 18 (.extract 1 16), mU 19 (.extract 2 16), mM 8 18, mM 9 19]) (.seq (.reg [mM 20 9, mQ 21 342 [20] c342, mM 10 21]) (.block 2 (.seq (.reg [mM 31 9, mB .eql 32 31 (.c (.i .i32 124)), mM 30 32]) (.cond 30 (.seq (.reg [mM 33 0, mM 34 8, mB .add 35 34 (.c 1), mQ 36 228 [33, 35] c228]) (.seq (.reg [mM 37 1, mM 38 7, mM 39 38, (mM 40 6).g 39 true, (mB .lss 41 40 (.c 0)).g 39 true, mU 42 (.pick 39 41 (.c (.b false))), mM 4 37, mM 5 42]) .ret)) (.seq (.reg [mM 44 9, mB .eql 45 44 (.c (.i .i32 32)), mM 46 45, (mM 47 6).g 46 true, (mB .lss 48 47 (.c 0)).g 46 true, mU 49 (.pick 46 48 (.c (.b false))), mM 43 49]) (.cond 43 .skip (.seq (.reg [mM 51 10, mB .lss 52 51 (.c 0), mM 50 52]) (.cond 50 (.seq (.reg [mK 4 (.sl 0 none 0 0), mK 5 (.b false)]) .ret) (.seq (.reg [mM 54 6, mB .lss 55 54 (.c 0), mM 53 55]) (.cond 53 (.reg [mM 56 10, mM 6 56]) (.reg [mM 22 1, mM 23 6, mB .shl 24 23 (.c (.i .u64 4)), mM 25 10, mB .or 26 24 25, mU 27 (.conv .u8 26), mN 28 (.bslice 1 1 [.i .u8 0] [(0, (1, 27))]), mY 29 (.append 1 1 22 28), mM 1 29, mK 6 (.i .i64 (-1)), mK 7 (.b true)])))))))))))))))))) (.seq (.reg [mK 4 (.sl 0 none 0 0), mK 5 (.b false)]) .ret)))
def r297 : List ARes := [.t 4, .t 5]
theorem k297 (c228 : T 228) (c342 : T 342) : compFn Tryz.prog 297 = some ⟨57, (s297 c228 c342).er, r297⟩ := by kernel_rfl
abbrev q297 (O : Ops Tryz.prog) (c228 : T 228) (c342 : T 342) := curF 2 (sfn O (s297 c228 c342) r297)
def g297 : { g // g = q297 } := by
  have h : q297 = q297 := rfl
  conv at h => rhs; reduce
  exact ⟨_, h.symm⟩
def C297 : T 297 := mkRun 2 (k297 C228 C342) (by decide) (g297.1 (theOps Tryz.prog) C228 C342) (by rw [g297.2])
def s235 (c226 : T 226) (c228 : T 228) (c295 : T 295) (c297 : T 297) (c298 : T 298) : S := .seq (.reg [mK 2 (.b false)]) (.seq (.reg [mK 3 (.sl 0 none 0 0)]) (.seq (.block 0 (.loop [3] [0] (.join [0, 3] [] (.seq (.reg [mM 6 0, mU 7 (.nilCheck 6), mF 0 8 7, mL 9 8, mB .neq 10 9 (.c (.s []))]) (.cond 10 .skip (.exit 0))) (.block 1 (.join [0, 3, 4] [] (.reg [mM 11 0, mU 12 (.nilCheck 11), mF 0 13 12, mL 14 13, mQ 15 226 [14] c226, mM 4 15]) (.seq (.reg [mM 16 0, mQ 17 228 [16, .c 1] c228]) (.join [0, 3, 4, 5] [] (.reg [mM 18 4, mB .geq 19 18 (.c (.i .i32 32)), mM 20 19, (mM 21 4).g 20 true, (mB .leq 22 21 (.c (.i .i32 126))).g 20 true, mU 23 (.pick 20 22 (.c (.b false))), mM 5 23]) (.join [0, 3, 5] [] (.seq (.reg [mM 24 4]) (.block 2 (.seq (.reg [mB .eql 31 24 (.c (.i .i32 34)), mM 30 31]) (.cond 30 (.seq (.reg [mM 32 0, mM 33 3, mR 34 (.b2s 33), mQ 35 295 [32, .c 3, 34, .c 0] c295]) (.seq (.reg [mK 2 (.b true)]) .ret)) (.seq (.reg [mB .eql 37 24 (.c (.i .i32 124)), mM 36 37]) (.cond 36 (.reg [mM 39 0, mM 40 3, mQ 41 297 [39, 40] c297, mM 38 41, mU 42 (.extract 0 38), mU 43 (.extract 1 38), mM 3 42, mM 5 43]) (.seq (.reg [mB .eql 45 24 (.c (.i .i32 92)), mM 44 45]) (.cond 44 (.seq (.reg [mM 46 0, mU 47 (.nilCheck 46), mF 0 48 47, mL 49 48, mQ 50 226 [49] c226, mM 4 50]) (.seq (.reg [mM 51 4, mQ 52 298 [.c (.s [34, 124, 92]), 51] c298, mM 5 52]) (.seq (.reg [mM 53 5]) (.cond 53 (.reg [mM 54 3, mM 55 0, mQ 56 228 [55, .c 1] c228, mY 57 (.append 1 1 54 56), mM 3 57]) .skip)))) (.reg [mM 25 3, mM 26 4, mU 27 (.conv .u8 26), mN 28 (.bslice 1 1 [.i .u8 0] [(0, (1, 27))]), mY 29 (.append 1 1 25 28), mM 3 29]))))))))) (.seq (.reg [mM 58 5, mU 59 (.un .not 58)]) (.cond 59 (.seq (.reg [mK 2 (.b false)]) .ret) .skip)))))))))) (.seq (.reg [mK 2 (.b false)]) .ret)))
def r235 : List ARes := [.t 2]
theorem k235 (c226 : T 226) (c228 : T 228) (c295 : T 295) (c297 : T 297) (c298 : T 298) : compFn Tryz.prog 235 = some ⟨60, (s235 c226 c228 c295 c297 c298).er, r235⟩ := by kernel_rfl
abbrev q235 (O : Ops Tryz.prog) (c226 : T 226) (c228 : T 228) (c295 : T 295) (c297 : T 297) (c298 : T 298) := curF 1 (sfn O (s235 c226 c228 c295 c297 c298) r235)
def g235 : { g // g = q235 } := by
  have h : q235 = q235 := rfl
  conv at h => rhs; reduce
  exact ⟨_, h.symm⟩
def C235 : T 235 := mkRun 1 (k235 C226 C228 C295 C297 C298) (by decide) (g235.1 (theOps Tryz.prog) C226 C228 C295 C297 C298) (by rw [g235.2])
def s214 : S := .seq (.reg [mK 4 (.b false)]) (.seq (.reg [mM 5 0, mU 6 (.lenS 5), mM 7 1, mU 8 (.lenS 7), mB .geq 9 6 8, mM 10 9, (mM 11 0).g 10 true, (mM 12 1).g 10 true, (mU 13 (.lenS 12)).g 10 true, (mU 14 (.slStr 11 none (some 13))).g 10 true, (mM 15 1).g 10 true, (mB .eql 16 14 15).g 10 true, mU 17 (.pick 10 16 (.c (.b false))), mM 4 17]) .ret)
def r214 : List ARes := [.t 4]
theorem k214 : compFn Tryz.prog 214 = some ⟨18, (s214).er, r214⟩ := by kernel_rfl
abbrev q214 (O : Ops Tryz.prog) := curF 2 (sfn O (s214) r214)
def g214 : { g // g = q214 } := by
  have h : q214 = q214 := rfl
  conv at h => rhs; reduce
  exact ⟨_, h.symm⟩
def C214 : T 214 := mkRun 2 (k214) (by decide) (g214.1 (theOps Tryz.prog)) (by rw [g214.2])
def s142 (c214 : T 214) : S := .seq (.reg [mK 4 (.b false)]) (.seq (.reg [mM 5 0, mM 6 1, mQ 7 214 [5, 6] c214, mM 4 7]) .ret)
def r142 : List ARes := [.t 4]
theorem k142 (c214 : T 214) : compFn Tryz.prog 142 = some ⟨8, (s142 c214).er, r142⟩ := by kernel_rfl
abbrev q142 (O : Ops Tryz.prog) (c214 : T 214) := curF 2 (sfn O (s142 c214) r142)
def g142 : { g // g = q142 } := by
  have h : q142 = q142 := rfl
  conv at h => rhs; reduce
  exact ⟨_, h.symm⟩
def C142 : T 142 := mkRun 2 (k142 C214) (by decide) (g142.1 (theOps Tryz.prog) C214) (by rw [g142.2])
def s236 (c142 : T 142) (c226 : T 226) (c228 : T 228) (c295 : T 295) (c298 : T 298) : S := .seq (.reg [mK 2 (.b false)]) (.seq (.join [0, 5, 6, 7] [] (.reg [mN 5 (.bslice 1 2 [.s [], .s []] [(0, (1, .c (.s [45, 62]))), (1, (1, .c (.s [60, 62])))]), mU 6 (.lenSl 5), mK 7 0]) (.block 0 (.loop [7] [0, 5, 6] (.seq (.reg [mB .lss 8 7 6]) (.seq (.cond 8 .skip (.exit 0)) (.seq (.block 1 (.seq (.reg [mU 9 (.idxAddrSl 1 5 7), mL 10 9, mM 4 10]) (.seq (.reg [mM 11 0, mU 12 (.nilCheck 11), mF 0 13 12, mL 14 13, mM 15 4, mQ 16 142 [14, 15] c142]) (.cond 16 (.seq (.reg [mM 17 0, mM 18 0, mM 19 4, mU 20 (.lenS 19), mQ 21 228 [18, 20] c228, mQ 22 295 [17, .c 4, 21, .c 0] c295]) (.seq (.reg [mK 2 (.b true)]) .ret)) .skip)))) (.reg [mB .add 23 7 (.c 1), mM 7 23]))))))) (.seq (.seq (.reg [mM 24 0, mU 25 (.nilCheck 24), mF 0 26 25, mL 27 26, mQ 28 226 [27] c226, mQ 29 298 [.c (.s [40, 41, 59, 58, 44, 47, 91, 93, 33, 45, 46, 61]), 28] c298, mU 30 (.un .not 29)]) (.cond 30 (.seq (.reg [mK 2 (.b false)]) .ret) .skip)) (.seq (.reg [mM 31 0, mM 32 0, mQ 33 228 [32, .c 1] c228, mQ 34 295 [31, .c 4, 33, .c 0] c295]) (.seq (.reg [mK 2 (.b true)]) .ret))))
def r236 : List ARes := [.t 2]
theorem k236 (c142 : T 142) (c226 : T 226) (c228 : T 228) (c295 : T 295) (c298 : T 298) : compFn Tryz.prog 236 = some ⟨35, (s236 c142 c226 c228 c295 c298).er, r236⟩ := by kernel_rfl
abbrev q236 (O : Ops Tryz.prog) (c142 : T 142) (c226 : T 226) (c228 : T 228) (c295 : T 295) (c298 : T 298) := curF 1 (sfn O (s236 c142 c226 c228 c295 c298) r236)
def g236 : { g // g = q236 } := by
  have h : q236 = q236 := rfl
  conv at h => rhs; reduce
  exact ⟨_, h.symm⟩
def C236 : T 236 := mkRun 1 (k236 C142 C226 C228 C295 C298) (by decide) (g236.1 (theOps Tryz.prog) C142 C226 C228 C295 C298) (by rw [g236.2])
def s149 (c226 : T 226) (c227 : T 227) (c228 : T 228) (c229 : T 229) (c231 : T 231) (c232 : T 232) (c233 : T 233) (c234 : T 234) (c235 : T 235) (c236 : T 236) : S := .seq (.reg [mK 2 (.b false)]) (.join [0, 3] [] (.reg [mM 4 0, mU 5 (.nilCheck 4), mF 0 6 5, mL 7 6, mQ 8 226 [7] c226, mM 3 8]) (.join [] [] (.block 0 (.seq (.reg [mM 12 3, mQ 13 227 [12] c227, mM 11 13]) (.cond 11 (.reg [mM 14 0, mQ 15 228 [14, .c 1] c228]) (.seq (.reg [mM 17 3, mB .eql 18 17 (.c (.i .i32 10)), mM 16 18]) (.cond 16 (.seq (.reg [mM 19 0, mQ 20 228 [19, .c 1] c228]) (.reg [mM 21 0, mU 22 (.nilCheck 21), mF 1 23 22, mL 24 23, mB .add 25 24 (.c 1), mU 26 (.nilCheck 21), mF 1 27 26, mZ (.st 1 27 25)])) (.seq (.reg [mM 29 3, mB .eql 30 29 (.c (.i .i32 35)), mM 28 30]) (.cond 28 (.reg [mM 31 0, mM 32 0, mU 33 (.nilCheck 32), mF 0 34 33, mL 35 34, mQ 36 229 [35, .fn 230] c229, mQ 37 228 [31, 36] c228]) (.seq (.reg [mM 39 3, mQ 40 231 [39] c231, mM 38 40]) (.cond 38 (.seq (.reg [mM 41 0, mQ 42 232 [41, .c 1] c232, mM 2 42]) .ret) (.seq (.reg [mM 44 3, mQ 45 233 [44] c233, mM 43 45]) (.cond 43 (.seq (.reg [mM 46 0, mQ 47 234 [46] c234, mM 2 47]) .ret) (.seq (.reg [mM 49 3, mB .eql 50 49 (.c (.i .i32 36)), mM 48 50]) (.cond 48 (.seq (.reg [mM 51 0, mQ 52 228 [51, .c 1] c228]) (.seq (.reg [mM 53 0, mQ 54 232 [53, .c 5] c232, mM 2 54]) .ret)) (.seq (.reg [mM 56 3, mB .eql 57 56 (.c (.i .i32 34)), mM 55 57]) (.cond 55 (.seq (.reg [mM 58 0, mQ 59 228 [58, .c 1] c228]) (.seq (.reg [mM 60 0, mQ 61 235 [60] c235, mM 2 61]) .ret)) (.seq (.reg [mM 9 0, mQ 10 236 [9] c236, mM 2 10]) .ret)))))))))))))))) (.seq (.reg [mK 2 (.b true)]) .ret)))
def r149 : List ARes := [.t 2]
theorem k149 (c226 : T 226) (c227 : T 227) (c228 : T 228) (c229 : T 229) (c231 : T 231) (c232 : T 232) (c233 : T 233) (c234 : T 234) (c235 : T 235) (c236 : T 236) : compFn Tryz.prog 149 = some ⟨62, (s149 c226 c227 c228 c229 c231 c232 c233 c234 c235 c236).er, r149⟩ := by kernel_rfl
abbrev q149 (O : Ops Tryz.prog) (c226 : T 226) (c227 : T 227) (c228 : T 228) (c229 : T 229) (c231 : T 231) (c232 : T 232) (c233 : T 233) (c234 : T 234) (c235 : T 235) (c236 : T 236) := curF 1 (sfn O (s149 c226 c227 c228 c229 c231 c232 c233 c234 c235 c236) r149)
def g149 : { g // g = q149 } := by
  have h : q149 = q149 := rfl
  conv at h => rhs; reduce
  exact ⟨_, h.symm⟩
def C149 : T 149 := mkRun 1 (k149 C226 C227 C228 C229 C231 C232 C233 C234 C235 C236) (by decide) (g149.1 (theOps Tryz.prog) C226 C227 C228 C229 C231 C232 C233 C234 C235 C236) (by rw [g149.2])
def s90 (c149 : T 149) : S := .seq (.reg [mK 2 (.sl 0 none 0 0), mK 3 0, mK 4 0]) (.join [0] [] (.seq (.reg [mM 6 0, mU 7 (.lenS 6), mB .gtr 8 7 (.c 8192)]) (.cond 8 (.seq (.reg [mK 2 (.sl 0 none 0 0), mK 3 0, mK 4 5]) .ret) .skip)) (.join [5] [] (.reg [mM 9 0, mU 10 (.build [.s [], 0, .sl 0 none 0 0] [(0, (1, 9)), (1, (1, .c 1))]), mN 11 (.box 10), mM 5 11]) (.seq (.block 0 (.loop [] [5] (.join [5] [] (.seq (.reg [mM 12 5, mU 13 (.nilCheck 12), mF 0 14 13, mL 15 14, mB .neq 16 15 (.c (.s []))]) (.cond 16 .skip (.exit 0))) (.block 1 (.seq (.reg [mM 17 5, mQ 18 149 [17] c149, mU 19 (.un .not 18)]) (.cond 19 (.seq (.draw 0 [⟨[], [dP 0 20 (.mv 5) 0, dP 1 21 (.nilCheck 20) 0, dP 2 22 (.fieldAddr 1 21) 0, dR 3 23 (.ld1 22) 0, dP 4 2 (.mv (.c (.sl 0 none 0 0))) 0, dP 5 3 (.mv 23) 0, dP 6 4 (.mv (.c 6)) 0], none⟩]) .ret) .skip)))))) (.seq (.reg [mM 24 5, mU 25 (.nilCheck 24), mF 2 26 25, mL 27 26, mM 2 27, mK 3 0, mK 4 0]) .ret))))
def r90 : List ARes := [.t 2, .t 3, .t 4]
theorem k90 (c149 : T 149) : compFn Tryz.prog 90 = some ⟨28, (s90 c149).er, r90⟩ := by kernel_rfl
abbrev q90 (O : Ops Tryz.prog) (c149 : T 149) := curF 1 (sfn O (s90 c149) r90)
def g90 : { g // g = q90 } := by
  have h : q90 = q90 := rfl
  conv at h => rhs; reduce
  exact ⟨_, h.symm⟩
def C90 : T 90 := mkRun 1 (k90 C149) (by decide) (g90.1 (theOps Tryz.prog) C149) (by rw [g90.2])
def s154 : S := .seq (.reg [mN 1 (.box 0), mK 2 (.b false)]) (.join [1, 3] [] (.reg [mF 1 6 1, mL 7 6, mU 8 (.lenSl 7), mB .leq 9 8 (.c 4), mM 3 9]) (.seq (.join [3, 11, 12, 13] [] (.reg [mF 1 10 1, mL 11 10, mU 12 (.lenSl 11), mK 13 0]) (.block 0 (.loop [3, 13] [11, 12] (.seq (.reg [mB .lss 14 13 12]) (.seq (.cond 14 .skip (.exit 0)) (.seq (.block 1 (.join [3, 5, 11, 12, 13] [] (.reg [mU 15 (.idxAddrSl 2 11 13), mR 16 (.ldN 2 15), mN 5 (.newz [0, 0]), mZ (.st 2 5 16)]) (.reg [mM 17 3, mM 18 17, (mF 0 19 5).g 18 true, (mL 20 19).g 18 true, (mB .geq 21 20 (.c 0)).g 18 true, mU 22 (.pick 18 21 (.c (.b false))), mM 23 22, (mF 0 24 5).g 23 true, (mL 25 24).g 23 true, (mF 1 26 5).g 23 true, (mL 27 26).g 23 true, (mB .leq 28 25 27).g 23 true, mU 29 (.pick 23 28 (.c (.b false))), mM 30 29, (mF 1 31 5).g 30 true, (mL 32 31).g 30 true, (mB .leq 33 32 (.c 65535)).g 30 true, mU 34 (.pick 30 33 (.c (.b false))), mM 3 34]))) (.reg [mB .add 35 13 (.c 1), mM 13 35]))))))) (.seq (.reg [mM 36 3, mM 2 36]) .ret)))
def r154 : List ARes := [.t 2]
theorem k154 : compFn Tryz.prog 154 = some ⟨37, (s154).er, r154⟩ := by kernel_rfl
abbrev q154 (O : Ops Tryz.prog) := curF 1 (sfn O (s154) r154)
def g154 : { g // g = q154 } := by
  have h : q154 = q154 := rfl
  conv at h => rhs; reduce
  exact ⟨_, h.symm⟩
def C154 : T 154 := mkRun 1 (k154) (by decide) (g154.1 (theOps Tryz.prog)) (by rw [g154.2])
def s238 : S := .seq (.reg [mK 2 (.m none)]) (.seq (.reg [mN 6 .mkmap, mM 3 6]) (.seq (.seq (.reg [mM 7 0, mU 8 (.lenSl 7), mK 9 0]) (.block 0 (.loop [9] [3, 7, 8] (.seq (.reg [mB .lss 10 9 8]) (.seq (.cond 10 .skip (.exit 0)) (.seq (.block 1 (.join [3, 5, 7, 8, 9] [] (.reg [mU 11 (.idxAddrSl 2 7 9), mR 12 (.ldN 2 11), mN 5 (.newz [0, 0]), mZ (.st 2 5 12)]) (.seq (.reg [mM 13 3, mF 0 14 5, mL 15 14, mR 16 (.lookup (.one .i) 0 false 13 15), mB .add 17 16 (.c 1), mZ (.mapUpd (.one .i) 13 15 17)]) (.reg [mM 18 3, mF 1 19 5, mL 20 19, mB .add 21 20 (.c 1), mR 22 (.lookup (.one .i) 0 false 18 21), mB .sub 23 22 (.c 1), mZ (.mapUpd (.one .i) 18 21 23)])))) (.reg [mB .add 24 9 (.c 1), mM 9 24]))))))) (.seq (.reg [mM 25 3, mM 2 25]) .ret)))
def r238 : List ARes := [.t 2]
theorem k238 : compFn Tryz.prog 238 = some ⟨26, (s238).er, r238⟩ := by kernel_rfl
abbrev q238 (O : Ops Tryz.prog) := curF 1 (sfn O (s238) r238)
def g238 : { g // g = q238 } := by
  have h : q238 = q238 := rfl
  conv at h => rhs; reduce
  exact ⟨_, h.symm⟩
def C238 : T 238 := mkRun 1 (k238) (by decide) (g238.1 (theOps Tryz.prog)) (by rw [g238.2])
def s156 (c154 : T 154) (c238 : T 238) (c239 : T 239) (c240 : T 240) : S := .join [1, 2] [] (.reg [mN 1 (.box 0), mN 2 (.newz [.b false, .sl 0 none 0 0])]) (.join [1, 2] [] (.seq (.reg [mR 10 (.ldN 2 1), mQ 11 154 [10] c154, mU 12 (.un .not 11)]) (.cond 12 (.seq (.reg [mU 13 (.build [.b false, .sl 0 none 0 0] []), mZ (.st 2 2 13)]) .ret) .skip)) (.join [1, 2, 3] [] (.reg [mF 0 14 1, mL 15 14, mU 16 (.build [.b false, .sl 0 none 0 0] [(0, (1, 15))]), mN 3 (.newz [.b false, .sl 0 none 0 0]), mZ (.st 2 3 16)]) (.join [2, 3, 4] [] (.reg [mF 1 17 1, mL 18 17, mQ 19 238 [18] c238, mM 4 19]) (.seq (.reg [mK 5 0, mK 6 0]) (.join [2, 3] [] (.join [2, 3, 4, 5, 6, 22, 23, 24] [] (.reg [mM 20 4, mQ 21 240 [20] c240, mQ 22 239 [21] c239, mU 23 (.lenSl 22), mK 24 0]) (.block 0 (.loop [5, 6, 24] [2, 3, 4, 22, 23] (.seq (.reg [mB .lss 25 24 23]) (.seq (.cond 25 .skip (.exit 0)) (.join [2, 3, 4, 5, 6, 22, 23, 24] [] (.block 1 (.join [2, 3, 4, 5, 6, 8, 22, 23, 24] [] (.reg [mU 26 (.idxAddrSl 1 22 24), mL 27 26, mM 8 27]) (.seq (.reg [mM 28 6, mM 9 28]) (.join [2, 3, 4, 5, 6, 8, 9, 22, 23, 24] [] (.reg [mM 29 6, mM 30 4, mM 31 8, mR 32 (.lookup (.one .i) 0 false 30 31), mB .add 33 29 32, mM 6 33]) (.block 2 (.join [2, 3, 4, 5, 6, 8, 9, 22, 23, 24, 34] [] (.reg [mM 35 9, mB .eql 36 35 (.c 0), mM 37 36, (mM 38 6).g 37 true, (mB .gtr 39 38 (.c 0)).g 37 true, mU 40 (.pick 37 39 (.c (.b false))), mM 34 40]) (.cond 34 (.reg [mM 41 8, mM 5 41]) (.seq (.reg [mM 43 9, mB .gtr 44 43 (.c 0), mM 45 44, (mM 46 6).g 45 true, (mB .eql 47 46 (.c 0)).g 45 true, mU 48 (.pick 45 47 (.c (.b false))), mM 42 48]) (.cond 42 (.reg [mF 1 49 3, mL 50 49, mM 51 5, mM 52 8, mB .sub 53 52 (.c 1), mU 54 (.build [0, 0] [(0, (1, 51)), (1, (1, 53))]), mN 55 (.bslice 2 1 [0, 0] [(0, (2, 54))]), mY 56 (.append 2 16 50 55), mF 1 57 3, mZ (.st 1 57 56)]) .skip))))))))) (.reg [mB .add 58 24 (.c 1), mM 24 58]))))))) (.join [2, 3] [] (.seq (.reg [mF 1 59 3, mL 60 59, mU 61 (.lenSl 60), mB .eql 62 61 (.c 1), mM 63 62, (mF 1 64 3).g 63 true, (mL 65 64).g 63 true, (mU 66 (.idxAddrSl 2 65 (.c 0))).g 63 true, (mR 67 (.ldN 2 66)).g 63 true, (mU 68 (.build [0, 0] [(1, (1, .c 65535))])).g 63 true, (mU 69 (.eqAgg false [(0, .i), (1, .i)] 67 68)).g 63 true, mU 70 (.pick 63 69 (.c (.b false)))]) (.cond 70 (.reg [mF 1 71 3, mZ (.st 1 71 (.c (.sl 0 none 0 0)))]) .skip)) (.seq (.reg [mR 72 (.ldN 2 3), mZ (.st 2 2 72)]) .ret)))))))
def r156 : List ARes := [.c true 2 2]
theorem k156 (c154 : T 154) (c238 : T 238) (c239 : T 239) (c240 : T 240) : compFn Tryz.prog 156 = some ⟨73, (s156 c154 c238 c239 c240).er, r156⟩ := by kernel_rfl
abbrev q156 (O : Ops Tryz.prog) (c154 : T 154) (c238 : T 238) (c239 : T 239) (c240 : T 240) := curF 1 (sfn O (s156 c154 c238 c239 c240) r156)
def g156 : { g // g = q156 } := by
  have h : q156 = q156 := rfl
  conv at h => rhs; reduce
  exact ⟨_, h.symm⟩
def C156 : T 156 := mkRun 1 (k156 C154 C238 C239 C240) (by decide) (g156.1 (theOps Tryz.prog) C154 C238 C239 C240) (by rw [g156.2])
def s343 : S := .seq (.reg [mK 6 (.b false)]) (.seq (.draw 0 [⟨[], [dP 0 7 (.mv 0) 0, dP 1 8 (.nilCheck 7) 0, dP 2 9 (.fieldAddr 1 8) 0, dR 3 10 (.ld1 9) 0, dP 4 11 (.mv 0) 0, dP 5 12 (.nilCheck 11) 0, dP 6 13 (.fieldAddr 0 12) 0, dR 7 14 (.ld1 13) 0, dP 8 15 (.lenSl 14) 0, dP 9 16 (.bin .lss 10 15) 0, dP 10 17 (.mv 16) 0, ⟨11, ⟨some 18, .pure (.mv 0), some (17, true)⟩, 0⟩, ⟨12, ⟨some 19, .pure (.nilCheck 18), some (17, true)⟩, 0⟩, ⟨13, ⟨some 20, .pure (.fieldAddr 0 19), some (17, true)⟩, 0⟩, ⟨14, ⟨some 21, .read (.ld1 20), some (17, true)⟩, 0⟩, ⟨15, ⟨some 22, .pure (.mv 0), some (17, true)⟩, 0⟩, ⟨16, ⟨some 23, .pure (.nilCheck 22), some (17, true)⟩, 0⟩, ⟨17, ⟨some 24, .pure (.fieldAddr 1 23), some (17, true)⟩, 0⟩, ⟨18, ⟨some 25, .read (.ld1 24), some (17, true)⟩, 0⟩, ⟨19, ⟨some 26, .pure (.idxAddrSl 4 21 25), some (17, true)⟩, 0⟩, ⟨20, ⟨some 27, .pure (.fieldAddr 0 26), some (17, true)⟩, 0⟩, ⟨21, ⟨some 28, .read (.ld1 27), some (17, true)⟩, 0⟩, ⟨22, ⟨some 29, .pure (.mv 1), some (17, true)⟩, 0⟩, ⟨23, ⟨some 30, .pure (.bin .eql 28 29), some (17, true)⟩, 0⟩, dP 24 31 (.pick 17 30 (.c (.b false))) 0, dP 25 32 (.mv 31) 0, ⟨26, ⟨some 33, .pure (.mv 0), some (32, true)⟩, 0⟩, ⟨27, ⟨some 34, .pure (.nilCheck 33), some (32, true)⟩, 0⟩, ⟨28, ⟨some 35, .pure (.fieldAddr 0 34), some (32, true)⟩, 0⟩, ⟨29, ⟨some 36, .read (.ld1 35), some (32, true)⟩, 0⟩, ⟨30, ⟨some 37, .pure (.mv 0), some (32, true)⟩, 0⟩, ⟨31, ⟨some 38, .pure (.nilCheck 37), some (32, true)⟩, 0⟩, ⟨32, ⟨some 39, .pure (.fieldAddr 1 38), some (32, true)⟩, 0⟩, ⟨33, ⟨some 40, .read (.ld1 39), some (32, true)⟩, 0⟩, ⟨34, ⟨some 41, .pure (.idxAddrSl 4 36 40), some (32, true)⟩, 0⟩, ⟨35, ⟨some 42, .pure (.fieldAddr 1 41), some (32, true)⟩, 0⟩, ⟨36, ⟨some 43, .read (.ld1 42), some (32, true)⟩, 0⟩, ⟨37, ⟨some 44, .pure (.mv 2), some (32, true)⟩, 0⟩, ⟨38, ⟨some 45, .pure (.bin .eql 43 44), some (32, true)⟩, 0⟩, ⟨39, ⟨some 46, .pure (.mv 45), some (32, true)⟩, 0⟩, ⟨40, ⟨some 47, .pure (.mv 2), some (46, false)⟩, 0⟩, ⟨41, ⟨some 48, .pure (.bin .eql 47 (.c (.s []))), some (46, false)⟩, 0⟩, ⟨42, ⟨some 49, .pure (.pick 46 (.c (.b true)) 48), some (32, true)⟩, 0⟩, dP 43 50 (.pick 32 49 (.c (.b false))) 0, dP 44 6 (.mv 50) 0], none⟩]) .ret)
def r343 : List ARes := [.t 6]
theorem k343 : compFn Tryz.prog 343 = some ⟨51, (s343).er, r343⟩ := by kernel_rfl
abbrev q343 (O : Ops Tryz.prog) := curF 3 (sfn O (s343) r343)
def g343 : { g // g = q343 } := by
  have h : q343 = q343 := rfl
  conv at h => rhs; reduce
  exact ⟨_, h.symm⟩
def C343 : T 343 := mkRun 3 (k343) (by decide) (g343.1 (theOps Tryz.prog)) (by rw [g343.2])
def s299 (c343 : T 343) : S := .seq (.reg [mK 6 (.b false)]) (.seq (.reg [mM 8 0, mM 9 1, mM 10 2, mQ 11 343 [8, 9, 10] c343, mM 7 11]) (.join [7] [] (.seq (.reg [mM 12 7]) (.cond 12 (.reg [mM 13 0, mU 14 (.nilCheck 13), mF 1 15 14, mL 16 15, mB .add 17 16 (.c 1), mU 18 (.nilCheck 13), mF 1 19 18, mZ (.st 1 19 17)]) .skip)) (.seq (.reg [mM 20 7, mM 6 20]) .ret)))
def r299 : List ARes := [.t 6]
theorem k299 (c343 : T 343) : compFn Tryz.prog 299 = some ⟨21, (s299 c343).er, r299⟩ := by kernel_rfl
abbrev q299 (O : Ops Tryz.prog) (c343 : T 343) := curF 3 (sfn O (s299 c343) r299)
def g299 : { g // g = q299 } := by
  have h : q299 = q299 := rfl
  conv at h => rhs; reduce
  exact ⟨_, h.symm⟩
def C299 : T 299 := mkRun 3 (k299 C343) (by decide) (g299.1 (theOps Tryz.prog) C343) (by rw [g299.2])
def s344 : S := .seq (.reg [mK 2 1]) (.join [2] [] (.join [0, 2, 3] [] (.reg [mM 4 0, mU 5 (.nilCheck 4), mF 0 6 5, mL 7 6, mU 8 (.lenSl 7), mM 3 8]) (.block 0 (.join [0, 2, 3, 9] [] (.reg [mM 10 0, mU 11 (.nilCheck 10), mF 1 12 11, mL 13 12, mM 14 3, mB .lss 15 13 14, mM 9 15]) (.cond 9 (.draw 0 [⟨[], [dP 0 16 (.mv 0) 0, dP 1 17 (.nilCheck 16) 0, dP 2 18 (.fieldAddr 0 17) 0, dR 3 19 (.ld1 18) 0, dP 4 20 (.mv 0) 0, dP 5 21 (.nilCheck 20) 0, dP 6 22 (.fieldAddr 1 21) 0, dR 7 23 (.ld1 22) 0, dP 8 24 (.idxAddrSl 4 19 23) 0, dP 9 25 (.fieldAddr 3 24) 0, dR 10 26 (.ld1 25) 0, dP 11 2 (.mv 26) 0], none⟩]) (.seq (.reg [mM 28 3, mB .gtr 29 28 (.c 0), mM 27 29]) (.cond 27 (.reg [mM 30 0, mU 31 (.nilCheck 30), mF 0 32 31, mL 33 32, mM 34 3, mB .sub 35 34 (.c 1), mU 36 (.idxAddrSl 4 33 35), mF 3 37 36, mL 38 37, mM 2 38]) .skip)))))) (.reg [mM 39 2, mU 40 (.build [0] [(0, (1, 39))]), mU 41 (.mkIface 261 40), ⟨none, .pan 41, none⟩]))
def r344 : List ARes := []
theorem k344 : compFn Tryz.prog 344 = some ⟨42, (s344).er, r344⟩ := by kernel_rfl
abbrev q344 (O : Ops Tryz.prog) := curF 1 (sfn O (s344) r344)
def g344 : { g // g = q344 } := by
  have h : q344 = q344 := rfl
  conv at h => rhs; reduce
  exact ⟨_, h.symm⟩
def C344 : T 344 := mkRun 1 (k344) (by decide) (g344.1 (theOps Tryz.prog)) (by rw [g344.2])
def s300 (c299 : T 299) (c344 : T 344) : S := .seq (.reg [mN 6 (.newz [0, .s [], 0, 0])]) (.join [0, 6] [] (.seq (.reg [mM 7 0, mM 8 1, mM 9 2, mQ 10 299 [7, 8, 9] c299, mU 11 (.un .not 10)]) (.cond 11 (.reg [mM 12 0, mQ 13 344 [12] c344]) .skip)) (.seq (.draw 0 [⟨[], [dP 0 14 (.mv 0) 0, dP 1 15 (.nilCheck 14) 0, dP 2 16 (.fieldAddr 0 15) 0, dR 3 17 (.ld1 16) 0, dP 4 18 (.mv 0) 0, dP 5 19 (.nilCheck 18) 0, dP 6 20 (.fieldAddr 1 19) 0, dR 7 21 (.ld1 20) 0, dP 8 22 (.bin .sub 21 (.c 1)) 0, dP 9 23 (.idxAddrSl 4 17 22) 0, dR 10 24 (.ldN 4 23) 0], some (mZ (.st 4 6 24))⟩, ⟨[], [], none⟩]) .ret))
def r300 : List ARes := [.c true 4 6]
theorem k300 (c299 : T 299) (c344 : T 344) : compFn Tryz.prog 300 = some ⟨25, (s300 c299 c344).er, r300⟩ := by kernel_rfl
abbrev q300 (O : Ops Tryz.prog) (c299 : T 299) (c344 : T 344) := curF 3 (sfn O (s300 c299 c344) r300)
def g300 : { g // g = q300 } := by
  have h : q300 = q300 := rfl
  conv at h => rhs; reduce
  exact ⟨_, h.symm⟩
def C300 : T 300 := mkRun 3 (k300 C299 C344) (by decide) (g300.1 (theOps Tryz.prog) C299 C344) (by rw [g300.2])
def s301 (c300 : T 300) : S := .reg [mM 4 0, mM 5 1, mQ 6 300 [4, .c 4, 5] c300]
def r301 : List ARes := []
theorem k301 (c300 : T 300) : compFn Tryz.prog 301 = some ⟨7, (s301 c300).er, r301⟩ := by kernel_rfl
abbrev q301 (O : Ops Tryz.prog) (c300 : T 300) := curF 2 (sfn O (s301 c300) r301)
def g301 : { g // g = q301 } := by
  have h : q301 = q301 := rfl
  conv at h => rhs; reduce
  exact ⟨_, h.symm⟩
def C301 : T 301 := mkRun 2 (k301 C300) (by decide) (g301.1 (theOps Tryz.prog) C300) (by rw [g301.2])
def s152 : S := .seq (.reg [mK 6 (.b false)]) (.seq (.reg [mM 7 0, mM 8 1, mB .geq 9 7 8, mM 10 9, (mM 11 0).g 10 true, (mM 12 2).g 10 true, (mB .leq 13 11 12).g 10 true, mU 14 (.pick 10 13 (.c (.b false))), mM 6 14]) .ret)
def r152 : List ARes := [.t 6]
theorem k152 : compFn Tryz.prog 152 = some ⟨15, (s152).er, r152⟩ := by kernel_rfl
abbrev q152 (O : Ops Tryz.prog) := curF 3 (sfn O (s152) r152)
def g152 : { g // g = q152 } := by
  have h : q152 = q152 := rfl
  conv at h => rhs; reduce
  exact ⟨_, h.symm⟩
def C152 : T 152 := mkRun 3 (k152) (by decide) (g152.1 (theOps Tryz.prog)) (by rw [g152.2])
def s349 (c152 : T 152) (c300 : T 300) (c344 : T 344) : S := .seq (.reg [mK 6 0]) (.join [0, 1, 2, 7] [] (.reg [mM 8 0, mQ 9 300 [8, .c 2, .c (.s [])] c300, mU 10 (.field false 2 1 9), mM 7 10]) (.join [7] [] (.seq (.reg [mM 11 7, mM 12 1, mM 13 2, mQ 14 152 [11, 12, 13] c152, mU 15 (.un .not 14)]) (.cond 15 (.seq (.reg [mM 16 0, mU 17 (.nilCheck 16), mF 1 18 17, mL 19 18, mB .sub 20 19 (.c 1), mU 21 (.nilCheck 16), mF 1 22 21, mZ (.st 1 22 20)]) (.reg [mM 23 0, mQ 24 344 [23] c344])) .skip)) (.seq (.reg [mM 25 7, mM 6 25]) .ret)))
def r349 : List ARes := [.t 6]
theorem k349 (c152 : T 152) (c300 : T 300) (c344 : T 344) : compFn Tryz.prog 349 = some ⟨26, (s349 c152 c300 c344).er, r349⟩ := by kernel_rfl
abbrev q349 (O : Ops Tryz.prog) (c152 : T 152) (c300 : T 300) (c344 : T 344) := curF 3 (sfn O (s349 c152 c300 c344) r349)
def g349 : { g // g = q349 } := by
  have h : q349 = q349 := rfl
  conv at h => rhs; reduce
  exact ⟨_, h.symm⟩
def C349 : T 349 := mkRun 3 (k349 C152 C300 C344) (by decide) (g349.1 (theOps Tryz.prog) C152 C300 C344) (by rw [g349.2])
def s347 (c299 : T 299) (c301 : T 301) (c349 : T 349) : S := .seq (.reg [mN 2 (.newz [.i .u32 0, 0])]) (.join [0, 2, 3] [] (.reg [mM 5 0, mQ 6 349 [5, .c 0, .c 255] c349, mU 7 (.conv .u32 6), mM 3 7]) (.seq (.seq (.reg [mK 8 0]) (.block 0 (.loop [3, 8] [0, 2] (.seq (.reg [mB .lss 9 8 (.c 3)]) (.seq (.cond 9 .skip (.exit 0)) (.seq (.block 1 (.seq (.reg [mM 10 0, mQ 11 301 [10, .c (.s [46])] c301]) (.reg [mM 12 3, mB .shl 13 12 (.c (.i .u64 8)), mM 14 0, mQ 15 349 [14, .c 0, .c 255] c349, mU 16 (.conv .u32 15), mB .or 17 13 16, mM 3 17]))) (.reg [mB .add 18 8 (.c 1), mM 8 18]))))))) (.seq (.reg [mM 19 3, mU 20 (.build [.i .u32 0, 0] [(0, (1, 19)), (1, (1, .c 32))]), mN 4 (.newz [.i .u32 0, 0]), mZ (.st 2 4 20)]) (.join [2, 4] [] (.seq (.reg [mM 21 0, mQ 22 299 [21, .c 4, .c (.s [47])] c299]) (.cond 22 (.reg [mM 23 0, mQ 24 349 [23, .c 0, .c 32] c349, mF 1 25 4, mZ (.st 1 25 24)]) .skip)) (.seq (.reg [mR 26 (.ldN 2 4), mZ (.st 2 2 26)]) .ret)))))
def r347 : List ARes := [.c true 2 2]
theorem k347 (c299 : T 299) (c301 : T 301) (c349 : T 349) : compFn Tryz.prog 347 = some ⟨27, (s347 c299 c301 c349).er, r347⟩ := by kernel_rfl
abbrev q347 (O : Ops Tryz.prog) (c299 : T 299) (c301 : T 301) (c349 : T 349) := curF 1 (sfn O (s347 c299 c301 c349) r347)
def g347 : { g // g = q347 } := by
  have h : q347 = q347 := rfl
  conv at h => rhs; reduce
  exact ⟨_, h.symm⟩
def C347 : T 347 := mkRun 1 (k347 C299 C301 C349) (by decide) (g347.1 (theOps Tryz.prog) C299 C301 C349) (by rw [g347.2])
def s346 (c347 : T 347) : S := .draw 8 [⟨[], [dP 0 2 (.fieldAddr 1 0) 1, dR 1 3 (.ld1 2) 1, dR 2 4 (.ld1 1) 0], some (mQ 5 347 [4] c347)⟩, ⟨[⟨some 3, .read (.ld1 2), none⟩], [⟨4, ⟨some 6, .alloc (.bslice 2 1 [.i .u32 0, 0] [(0, (2, 5))]), none⟩, 1⟩], some (mY 7 (.append 2 16 3 6))⟩, ⟨[], [dP 6 8 (.fieldAddr 1 0) 2], some (mZ (.st 1 8 7))⟩, ⟨[], [], none⟩]
def r346 : List ARes := []
theorem k346 (c347 : T 347) : compFn Tryz.prog 346 = some ⟨9, (s346 c347).er, r346⟩ := by kernel_rfl
abbrev q346 (O : Ops Tryz.prog) (c347 : T 347) := curF 2 (sfn O (s346 c347) r346)
def g346 : { g // g = q346 } := by
  have h : q346 = q346 := rfl
  conv at h => rhs; reduce
  exact ⟨_, h.symm⟩
def C346 : T 346 := mkRun 2 (k346 C347) (by decide) (g346.1 (theOps Tryz.prog) C347) (by rw [g346.2])
def A346 : U := ⟨346, C346⟩
def s348 (c299 : T 299) (c349 : T 349) : S := .join [0, 1, 2] [] (.reg [mL 4 0, mQ 5 349 [4, .c 0, .c 65535] c349, mM 2 5]) (.seq (.reg [mM 6 2, mM 3 6]) (.join [1, 2, 3] [] (.seq (.reg [mL 7 0, mQ 8 299 [7, .c 4, .c (.s [45])] c299]) (.cond 8 (.reg [mL 9 0, mM 10 2, mQ 11 349 [9, 10, .c 65535] c349, mM 3 11]) .skip)) (.reg [mF 1 12 1, mL 13 12, mM 14 2, mM 15 3, mU 16 (.build [0, 0] [(0, (1, 14)), (1, (1, 15))]), mN 17 (.bslice 2 1 [0, 0] [(0, (2, 16))]), mY 18 (.append 2 16 13 17), mF 1 19 1, mZ (.st 1 19 18)])))
def r348 : List ARes := []
theorem k348 (c299 : T 299) (c349 : T 349) : compFn Tryz.prog 348 = some ⟨20, (s348 c299 c349).er, r348⟩ := by kernel_rfl
abbrev q348 (O : Ops Tryz.prog) (c299 : T 299) (c349 : T 349) := curF 2 (sfn O (s348 c299 c349) r348)
def g348 : { g // g = q348 } := by
  have h : q348 = q348 := rfl
  conv at h => rhs; reduce
  exact ⟨_, h.symm⟩
def C348 : T 348 := mkRun 2 (k348 C299 C349) (by decide) (g348.1 (theOps Tryz.prog) C299 C349) (by rw [g348.2])
def A348 : U := ⟨348, C348⟩
def s345 (c299 : T 299) (c301 : T 301) (a346 : U) (a348 : U) : S := .join [0, 1, 2] [] (.seq (.reg [mM 7 0, mQ 8 299 [7, .c 4, .c (.s [91])] c299, mU 9 (.un .not 8)]) (.cond 9 (.seq (.reg [mM 10 2, mV 11 10 [] [a346, a348] []]) .ret) .skip)) (.seq (.reg [mK 6 1]) (.seq (.seq (.reg [mM 12 2, mV 13 12 [] [a346, a348] []]) (.block 0 (.loop [6] [0, 1, 2] (.seq (.seq (.reg [mM 14 0, mQ 15 299 [14, .c 4, .c (.s [44])] c299]) (.cond 15 .skip (.exit 0))) (.seq (.block 1 (.reg [mM 18 2, mV 19 18 [] [a346, a348] []])) (.reg [mM 16 6, mB .add 17 16 (.c 1), mM 6 17])))))) (.seq (.reg [mM 20 0, mQ 21 301 [20, .c (.s [93])] c301]) (.reg [mM 22 0, mM 23 0, mU 24 (.nilCheck 23), mF 4 25 24, mL 26 25, mM 27 26, (mM 28 6).g 27 false, (mM 29 1).g 27 false, (mB .gtr 30 28 29).g 27 false, mU 31 (.pick 27 (.c (.b true)) 30), mU 32 (.nilCheck 22), mF 4 33 32, mZ (.st 1 33 31)]))))
def r345 : List ARes := []
theorem k345 (c299 : T 299) (c301 : T 301) (a346 : U) (a348 : U) : compFn Tryz.prog 345 = some ⟨34, (s345 c299 c301 a346 a348).er, r345⟩ := by kernel_rfl
abbrev q345 (O : Ops Tryz.prog) (c299 : T 299) (c301 : T 301) (a346 : U) (a348 : U) := curF 3 (sfn O (s345 c299 c301 a346 a348) r345)
def g345 : { g // g = q345 } := by
  have h : q345 = q345 := rfl
  conv at h => rhs; reduce
  exact ⟨_, h.symm⟩
def C345 : T 345 := mkRun 3 (k345 C299 C301 A346 A348) (by decide) (g345.1 (theOps Tryz.prog) C299 C301 A346 A348) (by rw [g345.2])
def s302 (c299 : T 299) (c343 : T 343) (c344 : T 344) (c345 : T 345) : S := .join [1, 2] [] (.reg [mN 1 (.box 0), mN 2 (.newz [.b false, .sl 0 none 0 0])]) (.join [1, 2, 3] [] (.reg [mL 6 1, mQ 7 299 [6, .c 4, .c (.s [33])] c299, mU 8 (.build [.b false, .sl 0 none 0 0] [(0, (1, 7))]), mN 3 (.newz [.b false, .sl 0 none 0 0]), mZ (.st 2 3 8)]) (.join [2, 3] [] (.block 0 (.join [1, 2, 3, 12] [] (.reg [mL 13 1, mQ 14 299 [13, .c 1, .c (.s [97, 110, 121])] c299, mM 12 14]) (.cond 12 .skip (.join [1, 2, 3, 15] [] (.reg [mL 16 1, mQ 17 343 [16, .c 5, .c (.s [])] c343, mM 15 17]) (.cond 15 (.join [1, 2, 3, 4, 5] [] (.draw 22 [⟨[], [dR 0 19 (.ld1 1) 0, dP 1 20 (.nilCheck 19) 0, dP 2 21 (.fieldAddr 2 20) 0, dR 3 22 (.ld1 21) 0, dR 4 23 (.ld1 1) 0, dP 5 24 (.nilCheck 23) 0, dP 6 25 (.fieldAddr 0 24) 0, dR 7 26 (.ld1 25) 0, dR 8 27 (.ld1 1) 0, dP 9 28 (.nilCheck 27) 0, dP 10 29 (.fieldAddr 1 28) 0, dR 11 30 (.ld1 29) 0, dP 12 31 (.idxAddrSl 4 26 30) 0, dP 13 32 (.fieldAddr 1 31) 0, dR 14 33 (.ld1 32) 0, dR 15 34 (.lookup (.one .s) (.agg [.b false, .sl 0 none 0 0]) true 22 33) 0, dP 16 18 (.mv 34) 0, dP 17 35 (.extract 0 18) 0, dP 18 36 (.extract 1 18) 1, ⟨19, ⟨some 4, .alloc (.newz [.b false, .sl 0 none 0 0]), none⟩, 0⟩], some (mZ (.st 2 4 35))⟩, ⟨[], [dP 21 5 (.mv 36) 1], none⟩]) (.join [1, 2, 3, 4] [] (.seq (.reg [mM 37 5, mU 38 (.un .not 37)]) (.cond 38 (.reg [mL 39 1, mQ 40 344 [39] c344]) .skip)) (.seq (.reg [mL 41 1, mU 42 (.nilCheck 41), mF 1 43 42, mL 44 43, mB .add 45 44 (.c 1), mU 46 (.nilCheck 41), mF 1 47 46, mZ (.st 1 47 45)]) (.seq (.reg [mF 0 48 4, mL 49 48, mF 0 50 3, mL 51 50, mU 52 (.eqB true 49 51), mF 1 53 4, mL 54 53, mU 55 (.build [.b false, .sl 0 none 0 0] [(0, (1, 52)), (1, (1, 54))]), mZ (.st 2 2 55)]) .ret)))) (.reg [mL 9 1, mU 10 (.mkFunc 346 [] [3, 1]), mQ 11 345 [9, .c 4, 10] c345])))))) (.seq (.reg [mR 56 (.ldN 2 3), mZ (.st 2 2 56)]) .ret)))
def r302 : List ARes := [.c true 2 2]
theorem k302 (c299 : T 299) (c343 : T 343) (c344 : T 344) (c345 : T 345) : compFn Tryz.prog 302 = some ⟨57, (s302 c299 c343 c344 c345).er, r302⟩ := by kernel_rfl
abbrev q302 (O : Ops Tryz.prog) (c299 : T 299) (c343 : T 343) (c344 : T 344) (c345 : T 345) := curF 1 (sfn O (s302 c299 c343 c344 c345) r302)
def g302 : { g // g = q302 } := by
  have h : q302 = q302 := rfl
  conv at h => rhs; reduce
  exact ⟨_, h.symm⟩
def C302 : T 302 := mkRun 1 (k302 C299 C343 C344 C345) (by decide) (g302.1 (theOps Tryz.prog) C299 C343 C344 C345) (by rw [g302.2])
def s303 (c299 : T 299) (c344 : T 344) : S := .seq (.reg [mK 4 0]) (.seq (.seq (.reg [mM 7 1, mU 8 (.lenSl 7), mK 9 0]) (.block 0 (.loop [9] [0, 7, 8] (.seq (.reg [mB .lss 10 9 8]) (.seq (.cond 10 .skip (.exit 0)) (.seq (.block 1 (.seq (.reg [mM 11 9, mU 12 (.idxAddrSl 1 7 9), mL 13 12, mM 5 11, mM 6 13]) (.seq (.reg [mM 14 0, mM 15 6, mQ 16 299 [14, .c 1, 15] c299]) (.cond 16 (.seq (.reg [mM 17 5, mB .add 18 17 (.c 1), mM 4 18]) .ret) .skip)))) (.reg [mB .add 19 9 (.c 1), mM 9 19]))))))) (.seq (.reg [mM 20 0, mQ 21 344 [20] c344]) (.seq (.reg [mK 4 0]) .ret)))
def r303 : List ARes := [.t 4]
theorem k303 (c299 : T 299) (c344 : T 344) : compFn Tryz.prog 303 = some ⟨22, (s303 c299 c344).er, r303⟩ := by kernel_rfl
abbrev q303 (O : Ops Tryz.prog) (c299 : T 299) (c344 : T 344) := curF 2 (sfn O (s303 c299 c344) r303)
def g303 : { g // g = q303 } := by
  have h : q303 = q303 := rfl
  conv at h => rhs; reduce
  exact ⟨_, h.symm⟩
def C303 : T 303 := mkRun 2 (k303 C299 C344) (by decide) (g303.1 (theOps Tryz.prog) C299 C344) (by rw [g303.2])
def s304 (c299 : T 299) (c345 : T 345) : S := .join [1, 2] [] (.reg [mN 1 (.box 0), mN 2 (.newz [.b false, .sl 0 none 0 0])]) (.seq (.reg [mL 4 1, mQ 5 299 [4, .c 4, .c (.s [33])] c299, mU 6 (.build [.b false, .sl 0 none 0 0] [(0, (1, 5))]), mN 3 (.newz [.b false, .sl 0 none 0 0]), mZ (.st 2 3 6)]) (.seq (.seq (.reg [mL 7 1, mQ 8 299 [7, .c 1, .c (.s [97, 110, 121])] c299]) (.cond 8 (.seq (.reg [mR 9 (.ldN 2 3), mZ (.st 2 2 9)]) .ret) .skip)) (.seq (.reg [mL 10 1, mU 11 (.mkFunc 348 [] [1, 3]), mQ 12 345 [10, .c 4, 11] c345]) (.seq (.reg [mR 13 (.ldN 2 3), mZ (.st 2 2 13)]) .ret))))
def r304 : List ARes := [.c true 2 2]
theorem k304 (c299 : T 299) (c345 : T 345) : compFn Tryz.prog 304 = some ⟨14, (s304 c299 c345).er, r304⟩ := by kernel_rfl
abbrev q304 (O : Ops Tryz.prog) (c299 : T 299) (c345 : T 345) := curF 1 (sfn O (s304 c299 c345) r304)
def g304 : { g // g = q304 } := by
  have h : q304 = q304 := rfl
  conv at h => rhs; reduce
  exact ⟨_, h.symm⟩
def C304 : T 304 := mkRun 1 (k304 C299 C345) (by decide) (g304.1 (theOps Tryz.prog) C299 C345) (by rw [g304.2])
def s350 (c344 : T 344) : S := .join [0, 1, 2] [] (.seq (.reg [mM 6 1, mU 7 (.isNil 1 false 6 (.c (.m none))), mM 8 7, (mM 9 1).g 8 false, (mM 10 2).g 8 false, (mR 11 (.lookup (.one .s) (.b false) false 9 10)).g 8 false, mU 12 (.pick 8 (.c (.b true)) 11)]) (.cond 12 (.reg [mM 13 0, mQ 14 344 [13] c344]) .skip)) (.seq (.reg [mM 15 1, mM 16 2, mZ (.mapUpd (.one .s) 15 16 (.c (.b true)))]) (.reg [mM 17 0, mU 18 (.nilCheck 17), mF 1 19 18, mL 20 19, mB .add 21 20 (.c 1), mU 22 (.nilCheck 17), mF 1 23 22, mZ (.st 1 23 21)]))
def r350 : List ARes := []
theorem k350 (c344 : T 344) : compFn Tryz.prog 350 = some ⟨24, (s350 c344).er, r350⟩ := by kernel_rfl
abbrev q350 (O : Ops Tryz.prog) (c344 : T 344) := curF 3 (sfn O (s350 c344) r350)
def g350 : { g // g = q350 } := by
  have h : q350 = q350 := rfl
  conv at h => rhs; reduce
  exact ⟨_, h.symm⟩
def C350 : T 350 := mkRun 3 (k350 C344) (by decide) (g350.1 (theOps Tryz.prog) C344) (by rw [g350.2])
def s351 (c301 : T 301) (c349 : T 349) : S := .seq (.reg [mK 6 0]) (.seq (.reg [mM 7 0, mQ 8 301 [7, .c (.s [58])] c301]) (.seq (.reg [mM 9 0, mM 10 1, mM 11 2, mQ 12 349 [9, 10, 11] c349, mM 6 12]) .ret))
def r351 : List ARes := [.t 6]
theorem k351 (c301 : T 301) (c349 : T 349) : compFn Tryz.prog 351 = some ⟨13, (s351 c301 c349).er, r351⟩ := by kernel_rfl
abbrev q351 (O : Ops Tryz.prog) (c301 : T 301) (c349 : T 349) := curF 3 (sfn O (s351 c301 c349) r351)
def g351 : { g // g = q351 } := by
  have h : q351 = q351 := rfl
  conv at h => rhs; reduce
  exact ⟨_, h.symm⟩
def C351 : T 351 := mkRun 3 (k351 C301 C349) (by decide) (g351.1 (theOps Tryz.prog) C301 C349) (by rw [g351.2])
def s352 (c299 : T 299) (c301 : T 301) (c349 : T 349) (c350 : T 350) (c351 : T 351) : S := .seq (.reg [mK 8 (.b false)]) (.join [] [] (.seq (.reg [mM 10 1]) (.block 0 (.seq (.reg [mB .eql 12 10 (.c (.s [110, 111, 99, 97, 115, 101])), mM 11 12]) (.cond 11 (.seq (.reg [mM 13 0, mM 14 2, mM 15 1, mQ 16 350 [13, 14, 15] c350]) (.reg [mM 17 3, mU 18 (.nilCheck 17), mF 1 19 18, mZ (.st 1 19 (.c (.b true)))])) (.seq (.reg [mB .eql 21 10 (.c (.s [111, 102, 102, 115, 101, 116])), mM 20 21]) (.cond 20 (.seq (.reg [mM 22 0, mM 23 2, mM 24 1, mQ 25 350 [22, 23, 24] c350]) (.reg [mM 26 3, mM 27 0, mQ 28 351 [27, .c 0, .c 65535] c351, mU 29 (.nilCheck 26), mF 3 30 29, mZ (.st 1 30 28)])) (.seq (.reg [mB .eql 32 10 (.c (.s [100, 101, 112, 116, 104])), mM 31 32]) (.cond 31 (.seq (.reg [mM 33 0, mM 34 2, mM 35 1, mQ 36 350 [33, 34, 35] c350]) (.reg [mM 37 3, mM 38 0, mQ 39 351 [38, .c 0, .c 65535] c351, mU 40 (.nilCheck 37), mF 4 41 40, mZ (.st 1 41 39)])) (.seq (.reg [mB .eql 43 10 (.c (.s [119, 105, 116, 104, 105, 110])), mM 42 43]) (.cond 42 (.seq (.reg [mM 44 0, mM 45 2, mM 46 1, mQ 47 350 [44, 45, 46] c350]) (.reg [mM 48 3, mM 49 3, mM 50 0, mQ 51 351 [50, .c 0, .c 65535] c351, mU 52 (.nilCheck 48), mF 7 53 52, mZ (.st 1 53 51), mU 54 (.nilCheck 49), mF 5 55 54, mZ (.st 1 55 (.c (.b true)))])) (.seq (.reg [mB .eql 57 10 (.c (.s [100, 105, 115, 116, 97, 110, 99, 101])), mM 56 57]) (.cond 56 (.seq (.reg [mM 58 0, mM 59 2, mM 60 1, mQ 61 350 [58, 59, 60] c350]) (.seq (.reg [mM 62 0, mQ 63 301 [62, .c (.s [58])] c301]) (.seq (.reg [mK 9 1]) (.join [0, 3, 9] [] (.seq (.reg [mM 64 0, mQ 65 299 [64, .c 4, .c (.s [45])] c299]) (.cond 65 (.reg [mK 9 (.i .i64 (-1))]) .skip)) (.reg [mM 66 3, mM 67 3, mM 68 9, mM 69 0, mQ 70 349 [69, .c 0, .c 65535] c349, mB .mul 71 68 70, mU 72 (.nilCheck 66), mF 6 73 72, mZ (.st 1 73 71), mU 74 (.nilCheck 67), mF 5 75 74, mZ (.st 1 75 (.c (.b true)))]))))) (.seq (.reg [mK 8 (.b false)]) .ret))))))))))))) (.seq (.reg [mK 8 (.b true)]) .ret))
def r352 : List ARes := [.t 8]
theorem k352 (c299 : T 299) (c301 : T 301) (c349 : T 349) (c350 : T 350) (c351 : T 351) : compFn Tryz.prog 352 = some ⟨76, (s352 c299 c301 c349 c350 c351).er, r352⟩ := by kernel_rfl
abbrev q352 (O : Ops Tryz.prog) (c299 : T 299) (c301 : T 301) (c349 : T 349) (c350 : T 350) (c351 : T 351) := curF 4 (sfn O (s352 c299 c301 c349 c350 c351) r352)
def g352 : { g // g = q352 } := by
  have h : q352 = q352 := rfl
  conv at h => rhs; reduce
  exact ⟨_, h.symm⟩
def C352 : T 352 := mkRun 4 (k352 C299 C301 C349 C350 C351) (by decide) (g352.1 (theOps Tryz.prog) C299 C301 C349 C350 C351) (by rw [g352.2])
def s305 (c299 : T 299) (c301 : T 301) (c303 : T 303) (c343 : T 343) (c344 : T 344) (c350 : T 350) (c351 : T 351) (c352 : T 352) : S := .seq (.reg [mN 10 .mkmap, mM 4 10]) (.seq (.reg [mK 5 (.m none)]) (.seq (.reg [mN 6 (.newz [.s [], .b false, .b false, 0, 0, .b false, 0, 0])]) (.block 0 (.loop [5] [0, 1, 4, 6] (.join [0, 1, 4, 5, 6] [] (.seq (.reg [mM 11 0, mQ 12 299 [11, .c 4, .c (.s [41])] c299, mU 13 (.un .not 12)]) (.cond 13 .skip (.exit 0))) (.block 1 (.join [0, 1, 4, 5, 6] [] (.seq (.reg [mM 14 0, mQ 15 343 [14, .c 1, .c (.s [])] c343, mU 16 (.un .not 15)]) (.cond 16 (.reg [mM 17 0, mQ 18 344 [17] c344]) .skip)) (.join [0, 1, 4, 5, 6, 7] [] (.draw 0 [⟨[], [dP 0 19 (.mv 0) 0, dP 1 20 (.nilCheck 19) 0, dP 2 21 (.fieldAddr 0 20) 0, dR 3 22 (.ld1 21) 0, dP 4 23 (.mv 0) 0, dP 5 24 (.nilCheck 23) 0, dP 6 25 (.fieldAddr 1 24) 0, dR 7 26 (.ld1 25) 0, dP 8 27 (.idxAddrSl 4 22 26) 0, dP 9 28 (.fieldAddr 1 27) 0, dR 10 29 (.ld1 28) 0, dP 11 7 (.mv 29) 0], none⟩]) (.join [0, 1, 4, 5, 6, 7] [] (.seq (.reg [mM 30 1, mU 31 (.nilCheck 30), mF 12 32 31, mL 33 32, mU 34 (.lenSl 33), mM 8 34]) (.seq (.reg [mM 35 8, mB .gtr 36 35 (.c 0)]) (.cond 36 (.reg [mM 37 1, mU 38 (.nilCheck 37), mF 12 39 38, mL 40 39, mM 41 8, mB .sub 42 41 (.c 1), mU 43 (.idxAddrSl 8 40 42), mR 44 (.ldN 8 43), mZ (.st 8 6 44)]) .skip))) (.join [0, 1, 4, 5, 6] [] (.block 2 (.seq (.reg [mM 48 7, mB .eql 49 48 (.c (.s [99, 111, 110, 116, 101, 110, 116])), mM 47 49]) (.cond 47 (.join [0, 1, 4, 6] [] (.reg [mM 50 0, mU 51 (.nilCheck 50), mF 1 52 51, mL 53 52, mB .add 54 53 (.c 1), mU 55 (.nilCheck 50), mF 1 56 55, mZ (.st 1 56 54)]) (.seq (.reg [mM 57 0, mQ 58 301 [57, .c (.s [58])] c301]) (.join [0, 1, 4, 6, 9] [] (.reg [mM 59 0, mQ 60 299 [59, .c 4, .c (.s [33])] c299, mU 61 (.build [.s [], .b false, .b false, 0, 0, .b false, 0, 0] [(2, (1, 60))]), mN 9 (.newz [.s [], .b false, .b false, 0, 0, .b false, 0, 0]), mZ (.st 8 9 61)]) (.join [0, 1, 4, 6, 9] [] (.seq (.reg [mM 62 0, mQ 63 343 [62, .c 3, .c (.s [])] c343, mU 64 (.un .not 63)]) (.cond 64 (.reg [mM 65 0, mQ 66 344 [65] c344]) .skip)) (.join [0, 1, 4, 6, 9] [] (.draw 0 [⟨[], [dP 0 67 (.mv 0) 0, dP 1 68 (.nilCheck 67) 0, dP 2 69 (.fieldAddr 0 68) 0, dR 3 70 (.ld1 69) 0, dP 4 71 (.mv 0) 0, dP 5 72 (.nilCheck 71) 0, dP 6 73 (.fieldAddr 1 72) 0, dR 7 74 (.ld1 73) 0, dP 8 75 (.idxAddrSl 4 70 74) 0, dP 9 76 (.fieldAddr 1 75) 0, dR 10 77 (.ld1 76) 0, dP 11 78 (.fieldAddr 0 9) 0], some (mZ (.st 1 78 77))⟩, ⟨[], [], none⟩]) (.join [0, 1, 4, 6, 9] [] (.reg [mM 79 0, mU 80 (.nilCheck 79), mF 1 81 80, mL 82 81, mB .add 83 82 (.c 1), mU 84 (.nilCheck 79), mF 1 85 84, mZ (.st 1 85 83)]) (.draw 13 [⟨[], [dP 0 86 (.mv 1) 1, dP 1 87 (.mv 1) 0, dP 2 88 (.nilCheck 87) 0, dP 3 89 (.fieldAddr 12 88) 0, dR 4 90 (.ld1 89) 0, dR 5 91 (.ldN 8 9) 0, ⟨6, ⟨some 92, .alloc (.bslice 8 1 [.s [], .b false, .b false, 0, 0, .b false, 0, 0] [(0, (8, 91))]), none⟩, 0⟩, ⟨8, ⟨some 94, .alloc .mkmap, none⟩, 2⟩], some (mY 93 (.append 8 64 90 92))⟩, ⟨[], [dP 9 95 (.nilCheck 86) 1, dP 10 96 (.fieldAddr 12 95) 1], some (mZ (.st 1 96 93))⟩, ⟨[], [dP 12 5 (.mv 94) 2], none⟩]))))))) (.seq (.reg [mM 98 7, mB .eql 99 98 (.c (.s [102, 108, 111, 119])), mM 97 99]) (.cond 97 (.seq (.reg [mM 100 0, mM 101 4, mM 102 7, mQ 103 350 [100, 101, 102] c350]) (.seq (.reg [mM 104 0, mQ 105 301 [104, .c (.s [58])] c301]) (.reg [mM 106 1, mM 107 0, mN 108 (.bslice 1 2 [.s [], .s []] [(0, (1, .c (.s [115, 101, 114, 118, 101, 114]))), (1, (1, .c (.s [99, 108, 105, 101, 110, 116])))]), mQ 109 303 [107, 108] c303, mU 110 (.nilCheck 106), mF 11 111 110, mZ (.st 1 111 109)]))) (.seq (.reg [mM 113 7, mB .eql 114 113 (.c (.s [115, 105, 100])), mM 112 114]) (.cond 112 (.seq (.reg [mM 115 0, mM 116 4, mM 117 7, mQ 118 350 [115, 116, 117] c350]) (.reg [mM 119 1, mM 120 0, mQ 121 351 [120, .c 0, .c 999999999] c351, mU 122 (.nilCheck 119), mF 13 123 122, mZ (.st 1 123 121)])) (.seq (.reg [mM 125 7, mB .eql 126 125 (.c (.s [114, 101, 118])), mM 124 126]) (.cond 124 (.seq (.reg [mM 127 0, mM 128 4, mM 129 7, mQ 130 350 [127, 128, 129] c350]) (.reg [mM 131 1, mM 132 0, mQ 133 351 [132, .c 0, .c 999999999] c351, mU 134 (.nilCheck 131), mF 14 135 134, mZ (.st 1 135 133)])) (.seq (.reg [mM 137 0, mM 138 7, mM 139 5, mQ 140 352 [137, 138, 139, 6] c352, mM 136 140]) (.cond 136 (.draw 0 [⟨[], [dP 0 141 (.mv 1) 0, dP 1 142 (.nilCheck 141) 0, dP 2 143 (.fieldAddr 12 142) 0, dR 3 144 (.ld1 143) 0, dP 4 145 (.mv 1) 0, dP 5 146 (.nilCheck 145) 0, dP 6 147 (.fieldAddr 12 146) 0, dR 7 148 (.ld1 147) 0, dP 8 149 (.lenSl 148) 0, dP 9 150 (.bin .sub 149 (.c 1)) 0, dR 10 151 (.ldN 8 6) 0, dP 11 152 (.idxAddrSl 8 144 150) 0], some (mZ (.st 8 152 151))⟩, ⟨[], [], none⟩]) (.reg [mM 45 0, mQ 46 344 [45] c344])))))))))))) (.reg [mM 153 0, mQ 154 301 [153, .c (.s [59])] c301])))))))))))
def r305 : List ARes := []
theorem k305 (c299 : T 299) (c301 : T 301) (c303 : T 303) (c343 : T 343) (c344 : T 344) (c350 : T 350) (c351 : T 351) (c352 : T 352) : compFn Tryz.prog 305 = some ⟨155, (s305 c299 c301 c303 c343 c344 c350 c351 c352).er, r305⟩ := by kernel_rfl
abbrev q305 (O : Ops Tryz.prog) (c299 : T 299) (c301 : T 301) (c303 : T 303) (c343 : T 343) (c344 : T 344) (c350 : T 350) (c351 : T 351) (c352 : T 352) := curF 2 (sfn O (s305 c299 c301 c303 c343 c344 c350 c351 c352) r305)
def g305 : { g // g = q305 } := by
  have h : q305 = q305 := rfl
  conv at h => rhs; reduce
  exact ⟨_, h.symm⟩
def C305 : T 305 := mkRun 2 (k305 C299 C301 C303 C343 C344 C350 C351 C352) (by decide) (g305.1 (theOps Tryz.prog) C299 C301 C303 C343 C344 C350 C351 C352) (by rw [g305.2])
def s153 : S := .seq (.reg [mN 1 (.box 0), mK 2 (.b false)]) (.join [1, 3] [] (.reg [mF 1 6 1, mL 7 6, mU 8 (.lenSl 7), mB .leq 9 8 (.c 4), mM 3 9]) (.seq (.join [3, 11, 12, 13] [] (.reg [mF 1 10 1, mL 11 10, mU 12 (.lenSl 11), mK 13 0]) (.block 0 (.loop [3, 13] [11, 12] (.seq (.reg [mB .lss 14 13 12]) (.seq (.cond 14 .skip (.exit 0)) (.seq (.block 1 (.seq (.reg [mU 15 (.idxAddrSl 2 11 13), mR 16 (.ldN 2 15), mN 5 (.newz [.i .u32 0, 0]), mZ (.st 2 5 16)]) (.reg [mM 17 3, mM 18 17, (mF 1 19 5).g 18 true, (mL 20 19).g 18 true, (mB .geq 21 20 (.c 0)).g 18 true, mU 22 (.pick 18 21 (.c (.b false))), mM 23 22, (mF 1 24 5).g 23 true, (mL 25 24).g 23 true, (mB .leq 26 25 (.c 32)).g 23 true, mU 27 (.pick 23 26 (.c (.b false))), mM 3 27]))) (.reg [mB .add 28 13 (.c 1), mM 13 28]))))))) (.seq (.reg [mM 29 3, mM 2 29]) .ret)))
def r153 : List ARes := [.t 2]
theorem k153 : compFn Tryz.prog 153 = some ⟨30, (s153).er, r153⟩ := by kernel_rfl
abbrev q153 (O : Ops Tryz.prog) := curF 1 (sfn O (s153) r153)
def g153 : { g // g = q153 } := by
  have h : q153 = q153 := rfl
  conv at h => rhs; reduce
  exact ⟨_, h.symm⟩
def C153 : T 153 := mkRun 1 (k153) (by decide) (g153.1 (theOps Tryz.prog)) (by rw [g153.2])
def s354 : S := .seq (.reg [mN 0 (.newz [.i .u32 0, .i .u32 0, .i .u32 0, .i .u32 0, .i .u32 0, .i .u32 0, .i .u32 0, .i .u32 0, .i .u32 0, .i .u32 0, .i .u32 0, .i .u32 0, .i .u32 0, .i .u32 0, .i .u32 0, .i .u32 0, .i .u32 0, .i .u32 0, .i .u32 0, .i .u32 0, .i .u32 0, .i .u32 0, .i .u32 0, .i .u32 0, .i .u32 0, .i .u32 0, .i .u32 0, .i .u32 0, .i .u32 0, .i .u32 0, .i .u32 0, .i .u32 0, .i .u32 0])]) (.seq (.reg [mN 1 (.newz [.i .u32 0, .i .u32 0, .i .u32 0, .i .u32 0, .i .u32 0, .i .u32 0, .i .u32 0, .i .u32 0, .i .u32 0, .i .u32 0, .i .u32 0, .i .u32 0, .i .u32 0, .i .u32 0, .i .u32 0, .i .u32 0, .i .u32 0, .i .u32 0, .i .u32 0, .i .u32 0, .i .u32 0, .i .u32 0, .i .u32 0, .i .u32 0, .i .u32 0, .i .u32 0, .i .u32 0, .i .u32 0, .i .u32 0, .i .u32 0, .i .u32 0, .i .u32 0, .i .u32 0])]) (.seq (.seq (.reg [mK 3 0]) (.block 0 (.loop [3] [0, 1] (.seq (.reg [mB .lss 4 3 (.c 33)]) (.seq (.cond 4 .skip (.exit 0)) (.seq (.block 1 (.seq (.reg [mM 5 3, mM 2 5]) (.reg [mM 6 2, mM 7 2, mB .sub 8 (.c 32) 7, mB .shl 9 (.c (.i .u64 4294967295)) 8, mU 10 (.conv .u32 9), mU 11 (.idxAddrArr 33 1 1 6), mZ (.st 1 11 10)]))) (.reg [mB .add 12 3 (.c 1), mM 3 12]))))))) (.seq (.reg [mR 13 (.ldN 33 1), mZ (.st 33 0 13)]) .ret)))
def r354 : List ARes := [.c true 33 0]
theorem k354 : compFn Tryz.prog 354 = some ⟨14, (s354).er, r354⟩ := by kernel_rfl
abbrev q354 (O : Ops Tryz.prog) := curF 0 (sfn O (s354) r354)
def g354 : { g // g = q354 } := by
  have h : q354 = q354 := rfl
  conv at h => rhs; reduce
  exact ⟨_, h.symm⟩
def C354 : T 354 := mkRun 0 (k354) (by decide) (g354.1 (theOps Tryz.prog)) (by rw [g354.2])
def s362 (c354 : T 354) : S := .seq (.reg [mN 2 (.box 0), mK 4 (.b false)]) (.seq (.draw 0 [⟨[], [dP 1 7 (.fieldAddr 1 2) 1, dR 2 8 (.ld1 7) 1], some (mQ 6 354 [] c354)⟩, ⟨[⟨some 8, .read (.ld1 7), none⟩], [dP 3 9 (.idxArr false 33 1 6 8) 1, dP 4 5 (.mv 9) 1], none⟩]) (.seq (.reg [mM 10 1, mM 11 5, mB .and 12 10 11, mF 0 13 2, mL 14 13, mM 15 5, mB .and 16 14 15, mB .eql 17 12 16, mM 4 17]) .ret))
def r362 : List ARes := [.t 4]
theorem k362 (c354 : T 354) : compFn Tryz.prog 362 = some ⟨18, (s362 c354).er, r362⟩ := by kernel_rfl
abbrev q362 (O : Ops Tryz.prog) (c354 : T 354) := curF 2 (sfn O (s362 c354) r362)
def g362 : { g // g = q362 } := by
  have h : q362 = q362 := rfl
  conv at h => rhs; reduce
  exact ⟨_, h.symm⟩
def C362 : T 362 := mkRun 2 (k362 C354) (by decide) (g362.1 (theOps Tryz.prog) C354) (by rw [g362.2])
def s353 (c362 : T 362) : S := .seq (.reg [mK 4 (.b false)]) (.join [0, 1, 5] [] (.reg [mM 8 0, mM 9 1, mU 10 (.idxAddrSl 2 8 9), mR 11 (.ldN 2 10), mN 5 (.newz [.i .u32 0, 0]), mZ (.st 2 5 11)]) (.seq (.seq (.reg [mM 12 0, mU 13 (.lenSl 12), mK 14 0]) (.block 0 (.loop [14] [1, 5, 12, 13] (.seq (.reg [mB .lss 15 14 13]) (.seq (.cond 15 .skip (.exit 0)) (.seq (.block 1 (.join [1, 5, 6, 7, 12, 13, 14] [] (.reg [mM 16 14, mU 17 (.idxAddrSl 2 12 14), mR 18 (.ldN 2 17), mN 7 (.newz [.i .u32 0, 0]), mM 6 16, mZ (.st 2 7 18)]) (.seq (.reg [mM 19 6, mM 20 1, mB .neq 21 19 20, mM 22 21, (mR 23 (.ldN 2 7)).g 22 true, (mF 0 24 5).g 22 true, (mL 25 24).g 22 true, (mQ 26 362 [23, 25] c362).g 22 true, mU 27 (.pick 22 26 (.c (.b false))), mM 28 27, (mF 1 29 7).g 28 true, (mL 30 29).g 28 true, (mF 1 31 5).g 28 true, (mL 32 31).g 28 true, (mB .lss 33 30 32).g 28 true, (mM 34 33).g 28 true, (mF 1 35 7).g 34 false, (mL 36 35).g 34 false, (mF 1 37 5).g 34 false, (mL 38 37).g 34 false, (mB .eql 39 36 38).g 34 false, (mM 40 39).g 34 false, (mM 41 6).g 40 true, (mM 42 1).g 40 true, (mB .lss 43 41 42).g 40 true, (mU 44 (.pick 40 43 (.c (.b false)))).g 34 false, (mU 45 (.pick 34 (.c (.b true)) 44)).g 28 true, mU 46 (.pick 28 45 (.c (.b false)))]) (.cond 46 (.seq (.reg [mK 4 (.b true)]) .ret) .skip)))) (.reg [mB .add 47 14 (.c 1), mM 14 47]))))))) (.seq (.reg [mK 4 (.b false)]) .ret)))
def r353 : List ARes := [.t 4]
theorem k353 (c362 : T 362) : compFn Tryz.prog 353 = some ⟨48, (s353 c362).er, r353⟩ := by kernel_rfl
abbrev q353 (O : Ops Tryz.prog) (c362 : T 362) := curF 2 (sfn O (s353 c362) r353)
def g353 : { g // g = q353 } := by
  have h : q353 = q353 := rfl
  conv at h => rhs; reduce
  exact ⟨_, h.symm⟩
def C353 : T 353 := mkRun 2 (k353 C362) (by decide) (g353.1 (theOps Tryz.prog) C362) (by rw [g353.2])
def s306 (c153 : T 153) (c353 : T 353) (c354 : T 354) : S := .join [1, 2] [] (.reg [mN 1 (.box 0), mN 2 (.newz [.b false, .sl 0 none 0 0])]) (.join [1, 2] [] (.seq (.reg [mR 6 (.ldN 2 1), mQ 7 153 [6] c153, mU 8 (.un .not 7)]) (.cond 8 (.seq (.reg [mU 9 (.build [.b false, .sl 0 none 0 0] []), mZ (.st 2 2 9)]) .ret) .skip)) (.join [1, 2, 3] [] (.reg [mF 0 10 1, mL 11 10, mU 12 (.build [.b false, .sl 0 none 0 0] [(0, (1, 11))]), mN 3 (.newz [.b false, .sl 0 none 0 0]), mZ (.st 2 3 12)]) (.seq (.join [1, 2, 3, 14, 15, 16] [] (.reg [mF 1 13 1, mL 14 13, mU 15 (.lenSl 14), mK 16 0]) (.block 0 (.loop [16] [1, 2, 3, 14, 15] (.seq (.reg [mB .lss 17 16 15]) (.seq (.cond 17 .skip (.exit 0)) (.join [1, 2, 3, 14, 15, 16] [] (.block 1 (.join [1, 2, 3, 4, 5, 14, 15, 16] [] (.reg [mM 18 16, mU 19 (.idxAddrSl 2 14 16), mR 20 (.ldN 2 19), mN 5 (.newz [.i .u32 0, 0]), mM 4 18, mZ (.st 2 5 20)]) (.join [1, 2, 3, 5, 14, 15, 16, 25] [] (.reg [mF 1 21 1, mL 22 21, mM 23 4, mQ 24 353 [22, 23] c353, mU 25 (.un .not 24)]) (.cond 25 (.draw 16 [⟨[], [dP 0 26 (.fieldAddr 1 3) 1, dR 1 27 (.ld1 26) 1, dP 2 28 (.fieldAddr 0 5) 1, dR 3 29 (.ld1 28) 1, dP 5 31 (.fieldAddr 1 5) 1, dR 6 32 (.ld1 31) 1, dP 9 35 (.fieldAddr 1 5) 1, dR 10 36 (.ld1 35) 1], some (mQ 30 354 [] c354)⟩, ⟨[⟨some 27, .read (.ld1 26), none⟩, ⟨some 29, .read (.ld1 28), none⟩, ⟨some 32, .read (.ld1 31), none⟩, ⟨some 36, .read (.ld1 35), none⟩], [dP 7 33 (.idxArr false 33 1 30 32) 1, dP 8 34 (.bin .and 29 33) 1, dP 11 37 (.build [.i .u32 0, 0] [(0, (1, 34)), (1, (1, 36))]) 1, ⟨12, ⟨some 38, .alloc (.bslice 2 1 [.i .u32 0, 0] [(0, (2, 37))]), none⟩, 1⟩], some (mY 39 (.append 2 16 27 38))⟩, ⟨[], [dP 14 40 (.fieldAddr 1 3) 2], some (mZ (.st 1 40 39))⟩, ⟨[], [], none⟩]) .skip)))) (.reg [mB .add 41 16 (.c 1), mM 16 41]))))))) (.seq (.reg [mR 42 (.ldN 2 3), mZ (.st 2 2 42)]) .ret))))
def r306 : List ARes := [.c true 2 2]
theorem k306 (c153 : T 153) (c353 : T 353) (c354 : T 354) : compFn Tryz.prog 306 = some ⟨43, (s306 c153 c353 c354).er, r306⟩ := by kernel_rfl
abbrev q306 (O : Ops Tryz.prog) (c153 : T 153) (c353 : T 353) (c354 : T 354) := curF 1 (sfn O (s306 c153 c353 c354) r306)
def g306 : { g // g = q306 } := by
  have h : q306 = q306 := rfl
  conv at h => rhs; reduce
  exact ⟨_, h.symm⟩
def C306 : T 306 := mkRun 1 (k306 C153 C353 C354) (by decide) (g306.1 (theOps Tryz.prog) C153 C353 C354) (by rw [g306.2])
def s237 (c156 : T 156) (c299 : T 299) (c300 : T 300) (c301 : T 301) (c302 : T 302) (c303 : T 303) (c304 : T 304) (c305 : T 305) (c306 : T 306) : S := .join [0] [] (.seq (.reg [mM 4 0, mQ 5 299 [4, .c 1, .c (.s [118, 97, 114])] c299]) (.cond 5 (.join [0, 2] [] (.reg [mM 6 0, mQ 7 300 [6, .c 1, .c (.s [])] c300, mU 8 (.field false 1 1 7), mM 2 8]) (.seq (.reg [mM 9 0, mQ 10 301 [9, .c (.s [61])] c301]) (.seq (.draw 0 [⟨[], [dP 0 11 (.mv 0) 1, dP 1 12 (.nilCheck 11) 1, dP 2 13 (.fieldAddr 2 12) 1, dR 3 14 (.ld1 13) 1, dP 4 15 (.mv 2) 1, dP 5 16 (.mv 0) 0], some (mQ 17 302 [16] c302)⟩, ⟨[⟨some 14, .read (.ld1 13), none⟩], [], some (mZ (.mapUpd (.one .s) 14 15 17))⟩, ⟨[], [], none⟩]) (.seq (.reg [mM 18 0, mU 19 (.nilCheck 18), mF 3 20 19, mL 21 20, mB .add 22 21 (.c 1), mU 23 (.nilCheck 18), mF 3 24 23, mZ (.st 1 24 22)]) .ret)))) .skip)) (.join [0] [] (.join [0, 34] [] (.draw 0 [⟨[], [dP 0 25 (.mv 0) 0, dP 1 26 (.nilCheck 25) 0, dP 2 27 (.fieldAddr 1 26) 0, dR 3 28 (.ld1 27) 0, dP 4 29 (.mv 0) 0, dP 5 30 (.nilCheck 29) 0, dP 6 31 (.fieldAddr 0 30) 0, dR 7 32 (.ld1 31) 0, dP 8 33 (.lenSl 32) 0, dP 9 34 (.bin .lss 28 33) 0], none⟩]) (.cond 34 (.draw 21 [⟨[], [dP 0 35 (.mv 0) 1, dP 1 36 (.mv 0) 0, dP 2 37 (.nilCheck 36) 0, dP 3 38 (.fieldAddr 6 37) 0, dR 4 39 (.ld1 38) 0, dP 5 40 (.mv 0) 0, dP 6 41 (.nilCheck 40) 0, dP 7 42 (.fieldAddr 0 41) 0, dR 8 43 (.ld1 42) 0, dP 9 44 (.mv 0) 0, dP 10 45 (.nilCheck 44) 0, dP 11 46 (.fieldAddr 1 45) 0, dR 12 47 (.ld1 46) 0, dP 13 48 (.idxAddrSl 4 43 47) 0, dP 14 49 (.fieldAddr 3 48) 0, dR 15 50 (.ld1 49) 0, ⟨16, ⟨some 51, .alloc (.bslice 1 1 [0] [(0, (1, 50))]), none⟩, 0⟩], some (mY 52 (.append 1 8 39 51))⟩, ⟨[], [dP 18 53 (.nilCheck 35) 1, dP 19 54 (.fieldAddr 6 53) 1], some (mZ (.st 1 54 52))⟩, ⟨[], [], none⟩]) .skip)) (.join [0, 3] [] (.reg [mU 55 (.build [0, 0, .b false, .sl 0 none 0 0, .b false, .sl 0 none 0 0, .b false, .sl 0 none 0 0, .b false, .sl 0 none 0 0, .b false, 0, .sl 0 none 0 0, 0, 0] [(14, (1, .c 1))]), mN 3 (.newz [0, 0, .b false, .sl 0 none 0 0, .b false, .sl 0 none 0 0, .b false, .sl 0 none 0 0, .b false, .sl 0 none 0 0, .b false, 0, .sl 0 none 0 0, 0, 0]), mZ (.st 15 3 55)]) (.join [0, 3] [] (.reg [mM 56 0, mN 57 (.bslice 1 4 [.s [], .s [], .s [], .s []] [(0, (1, .c (.s [97, 108, 101, 114, 116]))), (1, (1, .c (.s [100, 114, 111, 112]))), (2, (1, .c (.s [114, 101, 106, 101, 99, 116]))), (3, (1, .c (.s [98, 108, 111, 99, 107])))]), mQ 58 303 [56, 57] c303, mF 0 59 3, mZ (.st 1 59 58)]) (.join [0, 3] [] (.reg [mN 60 (.bslice 1 4 [0, 0, 0, 0] [(0, (1, .c 6)), (1, (1, .c 17)), (2, (1, .c 1)), (3, (1, .c 0))]), mM 61 0, mN 62 (.bslice 1 4 [.s [], .s [], .s [], .s []] [(0, (1, .c (.s [116, 99, 112]))), (1, (1, .c (.s [117, 100, 112]))), (2, (1, .c (.s [105, 99, 109, 112]))), (3, (1, .c (.s [105, 112])))]), mQ 63 303 [61, 62] c303, mB .sub 64 63 (.c 1), mU 65 (.idxAddrSl 1 60 64), mL 66 65, mF 1 67 3, mZ (.st 1 67 66)]) (.join [0, 3] [] (.reg [mM 68 0, mQ 69 302 [68] c302, mM 70 0, mQ 71 304 [70] c304, mF 2 72 3, mZ (.st 2 72 69), mF 4 73 3, mZ (.st 2 73 71)]) (.join [0, 3] [] (.seq (.reg [mM 74 0, mQ 75 299 [74, .c 4, .c (.s [60, 62])] c299, mF 10 76 3, mZ (.st 1 76 75)]) (.seq (.reg [mF 10 77 3, mL 78 77, mU 79 (.un .not 78)]) (.cond 79 (.reg [mM 80 0, mQ 81 301 [80, .c (.s [45, 62])] c301]) .skip))) (.join [0, 3] [] (.reg [mM 82 0, mQ 83 302 [82] c302, mM 84 0, mQ 85 304 [84] c304, mF 6 86 3, mZ (.st 2 86 83), mF 8 87 3, mZ (.st 2 87 85)]) (.seq (.reg [mM 88 0, mQ 89 301 [88, .c (.s [40])] c301]) (.seq (.reg [mM 90 0, mQ 91 305 [90, 3] c305]) (.join [0, 3] [] (.draw 0 [⟨[], [dP 0 92 (.fieldAddr 2 3) 0, dR 1 93 (.ldN 2 92) 0, dP 3 95 (.fieldAddr 6 3) 1, dR 4 96 (.ldN 2 95) 1, dP 6 98 (.fieldAddr 4 3) 2, dR 7 99 (.ldN 2 98) 2, dP 9 101 (.fieldAddr 8 3) 3, dR 10 102 (.ldN 2 101) 3], some (mQ 94 306 [93] c306)⟩, ⟨[⟨some 96, .read (.ldN 2 95), none⟩, ⟨some 99, .read (.ldN 2 98), none⟩, ⟨some 102, .read (.ldN 2 101), none⟩], [], some (mQ 97 306 [96] c306)⟩, ⟨[⟨some 99, .read (.ldN 2 98), none⟩, ⟨some 102, .read (.ldN 2 101), none⟩], [], some (mQ 100 156 [99] c156)⟩, ⟨[⟨some 102, .read (.ldN 2 101), none⟩], [], some (mQ 103 156 [102] c156)⟩, ⟨[], [dP 12 104 (.fieldAddr 2 3) 4], some (mZ (.st 2 104 94))⟩, ⟨[], [dP 14 105 (.fieldAddr 6 3) 5], some (mZ (.st 2 105 97))⟩, ⟨[], [dP 16 106 (.fieldAddr 4 3) 6], some (mZ (.st 2 106 100))⟩, ⟨[], [dP 18 107 (.fieldAddr 8 3) 7], some (mZ (.st 2 107 103))⟩, ⟨[], [], none⟩]) (.draw 11 [⟨[], [dP 0 108 (.mv 0) 1, dP 1 109 (.mv 0) 0, dP 2 110 (.nilCheck 109) 0, dP 3 111 (.fieldAddr 5 110) 0, dR 4 112 (.ld1 111) 0, dR 5 113 (.ldN 15 3) 0, ⟨6, ⟨some 114, .alloc (.bslice 15 1 [0, 0, .b false, .sl 0 none 0 0, .b false, .sl 0 none 0 0, .b false, .sl 0 none 0 0, .b false, .sl 0 none 0 0, .b false, 0, .sl 0 none 0 0, 0, 0] [(0, (15, 113))]), none⟩, 0⟩], some (mY 115 (.append 15 200 112 114))⟩, ⟨[], [dP 8 116 (.nilCheck 108) 1, dP 9 117 (.fieldAddr 5 116) 1], some (mZ (.st 1 117 115))⟩, ⟨[], [], none⟩])))))))))))
def r237 : List ARes := []
theorem k237 (c156 : T 156) (c299 : T 299) (c300 : T 300) (c301 : T 301) (c302 : T 302) (c303 : T 303) (c304 : T 304) (c305 : T 305) (c306 : T 306) : compFn Tryz.prog 237 = some ⟨118, (s237 c156 c299 c300 c301 c302 c303 c304 c305 c306).er, r237⟩ := by kernel_rfl
abbrev q237 (O : Ops Tryz.prog) (c156 : T 156) (c299 : T 299) (c300 : T 300) (c301 : T 301) (c302 : T 302) (c303 : T 303) (c304 : T 304) (c305 : T 305) (c306 : T 306) := curF 1 (sfn O (s237 c156 c299 c300 c301 c302 c303 c304 c305 c306) r237)
def g237 : { g // g = q237 } := by
  have h : q237 = q237 := rfl
  conv at h => rhs; reduce
  exact ⟨_, h.symm⟩
def C237 : T 237 := mkRun 1 (k237 C156 C299 C300 C301 C302 C303 C304 C305 C306) (by decide) (g237.1 (theOps Tryz.prog) C156 C299 C300 C301 C302 C303 C304 C305 C306) (by rw [g237.2])
def s151 (c151 : T 151) (c237 : T 237) : S := .seq (.draw 0 [⟨[], [dP 0 2 (.mv 0) 0, dP 1 3 (.nilCheck 2) 0, dP 2 4 (.fieldAddr 1 3) 0, dR 3 5 (.ld1 4) 0, dP 4 6 (.mv 0) 0, dP 5 7 (.nilCheck 6) 0, dP 6 8 (.fieldAddr 0 7) 0, dR 7 9 (.ld1 8) 0, dP 8 10 (.lenSl 9) 0, dP 9 11 (.bin .lss 5 10) 0], none⟩]) (.cond 11 (.seq (.reg [mM 12 0, mQ 13 237 [12] c237]) (.reg [mM 14 0, mQ 15 151 [14] c151])) .skip)
def r151 : List ARes := []
theorem k151 (c151 : T 151) (c237 : T 237) : compFn Tryz.prog 151 = some ⟨16, (s151 c151 c237).er, r151⟩ := by kernel_rfl
abbrev q151 (O : Ops Tryz.prog) (c151 : T 151) (c237 : T 237) := curF 1 (sfn O (s151 c151 c237) r151)
def g151 : { g // g = q151 } := by
  have h : q151 = q151 := rfl
  conv at h => rhs; reduce
  exact ⟨_, h.symm⟩
def C151 : RunF Tryz.prog 151 := Nat.rec (motive := fun _ => RunF Tryz.prog 151) (noC Tryz.prog 151) (fun _ ih => mkRun 1 (k151 ih C237) (by decide) (g151.1 (theOps Tryz.prog) ih C237) (by rw [g151.2])) (nat_lit 300)
def C91 : T 91 := runItems C151
def s155 : S := .seq (.reg [mN 1 (.box 0), mK 2 (.b false)]) (.seq (.reg [mF 1 3 1, mL 4 3, mU 5 (.lenSl 4), mB .eql 6 5 (.c 0), mM 7 6, (mF 0 8 1).g 7 true, (mL 9 8).g 7 true, (mU 10 (.un .not 9)).g 7 true, mU 11 (.pick 7 10 (.c (.b false))), mM 2 11]) .ret)
def r155 : List ARes := [.t 2]
theorem k155 : compFn Tryz.prog 155 = some ⟨12, (s155).er, r155⟩ := by kernel_rfl
abbrev q155 (O : Ops Tryz.prog) := curF 1 (sfn O (s155) r155)
def g155 : { g // g = q155 } := by
  have h : q155 = q155 := rfl
  conv at h => rhs; reduce
  exact ⟨_, h.symm⟩
def C155 : T 155 := mkRun 1 (k155) (by decide) (g155.1 (theOps Tryz.prog)) (by rw [g155.2])
def s157 (c152 : T 152) : S := .seq (.reg [mN 2 (.box 0), mK 4 (.b false)]) (.join [1, 2, 5] [] (.reg [mF 0 7 2, mL 8 7, mU 9 (.lenS 8), mM 5 9]) (.join [1, 2, 5, 6] [] (.reg [mM 10 5, mQ 11 152 [10, .c 1, .c 16] c152, mM 12 11, (mF 3 13 2).g 12 true, (mL 14 13).g 12 true, (mQ 15 152 [14, .c 0, .c 65535] c152).g 12 true, mU 16 (.pick 12 15 (.c (.b false))), mM 17 16, (mF 4 18 2).g 17 true, (mL 19 18).g 17 true, (mQ 20 152 [19, .c 0, .c 65535] c152).g 17 true, mU 21 (.pick 17 20 (.c (.b false))), mM 22 21, (mF 7 23 2).g 22 true, (mL 24 23).g 22 true, (mQ 25 152 [24, .c 0, .c 65535] c152).g 22 true, mU 26 (.pick 22 25 (.c (.b false))), mM 27 26, (mF 6 28 2).g 27 true, (mL 29 28).g 27 true, (mQ 30 152 [29, .c (.i .i64 (-65535)), .c 65535] c152).g 27 true, mU 31 (.pick 27 30 (.c (.b false))), mM 6 31]) (.join [2, 5, 6] [] (.join [1, 2, 5, 6, 33] [] (.reg [mF 5 32 2, mL 33 32]) (.cond 33 (.seq (.reg [mM 34 6, mM 35 34, (mF 2 36 2).g 35 true, (mL 37 36).g 35 true, (mU 38 (.un .not 37)).g 35 true, mU 39 (.pick 35 38 (.c (.b false))), mM 40 39, (mM 41 1).g 40 true, mU 42 (.pick 40 41 (.c (.b false))), mM 43 42, (mF 3 44 2).g 43 true, (mL 45 44).g 43 true, (mB .eql 46 45 (.c 0)).g 43 true, mU 47 (.pick 43 46 (.c (.b false))), mM 48 47, (mF 4 49 2).g 48 true, (mL 50 49).g 48 true, (mB .eql 51 50 (.c 0)).g 48 true, mU 52 (.pick 48 51 (.c (.b false))), mM 53 52, (mF 7 54 2).g 53 true, (mL 55 54).g 53 true, (mB .eql 56 55 (.c 0)).g 53 true, (mM 57 56).g 53 true, (mF 7 58 2).g 57 false, (mL 59 58).g 57 false, (mM 60 5).g 57 false, (mB .geq 61 59 60).g 57 false, (mU 62 (.pick 57 (.c (.b true)) 61)).g 53 true, mU 63 (.pick 53 62 (.c (.b false))), mM 4 63]) .ret) .skip)) (.seq (.reg [mM 64 6, mM 65 64, (mF 6 66 2).g 65 true, (mL 67 66).g 65 true, (mB .eql 68 67 (.c 0)).g 65 true, mU 69 (.pick 65 68 (.c (.b false))), mM 70 69, (mF 7 71 2).g 70 true, (mL 72 71).g 70 true, (mB .eql 73 72 (.c 0)).g 70 true, mU 74 (.pick 70 73 (.c (.b false))), mM 75 74, (mF 4 76 2).g 75 true, (mL 77 76).g 75 true, (mB .eql 78 77 (.c 0)).g 75 true, (mM 79 78).g 75 true, (mF 4 80 2).g 79 false, (mL 81 80).g 79 false, (mM 82 5).g 79 false, (mB .geq 83 81 82).g 79 false, (mU 84 (.pick 79 (.c (.b true)) 83)).g 75 true, mU 85 (.pick 75 84 (.c (.b false))), mM 4 85]) .ret))))
def r157 : List ARes := [.t 4]
theorem k157 (c152 : T 152) : compFn Tryz.prog 157 = some ⟨86, (s157 c152).er, r157⟩ := by kernel_rfl
abbrev q157 (O : Ops Tryz.prog) (c152 : T 152) := curF 2 (sfn O (s157 c152) r157)
def g157 : { g // g = q157 } := by
  have h : q157 = q157 := rfl
  conv at h => rhs; reduce
  exact ⟨_, h.symm⟩
def C157 : T 157 := mkRun 2 (k157 C152) (by decide) (g157.1 (theOps Tryz.prog) C152) (by rw [g157.2])
def s92 (c152 : T 152) (c153 : T 153) (c154 : T 154) (c155 : T 155) (c156 : T 156) (c157 : T 157) : S := .seq (.reg [mN 1 (.box 0), mK 2 (.b false)]) (.join [1, 3] [] (.reg [mF 0 7 1, mL 8 7, mQ 9 152 [8, .c 1, .c 4] c152, mM 10 9, (mF 1 11 1).g 10 true, (mL 12 11).g 10 true, (mB .eql 13 12 (.c 0)).g 10 true, (mM 14 13).g 10 true, (mF 1 15 1).g 14 false, (mL 16 15).g 14 false, (mB .eql 17 16 (.c 1)).g 14 false, (mU 18 (.pick 14 (.c (.b true)) 17)).g 10 true, (mM 19 18).g 10 true, (mF 1 20 1).g 19 false, (mL 21 20).g 19 false, (mB .eql 22 21 (.c 6)).g 19 false, (mU 23 (.pick 19 (.c (.b true)) 22)).g 10 true, (mM 24 23).g 10 true, (mF 1 25 1).g 24 false, (mL 26 25).g 24 false, (mB .eql 27 26 (.c 17)).g 24 false, (mU 28 (.pick 24 (.c (.b true)) 27)).g 10 true, mU 29 (.pick 10 28 (.c (.b false))), mM 3 29]) (.join [1, 3] [] (.reg [mM 30 3, mM 31 30, (mF 2 32 1).g 31 true, (mR 33 (.ldN 2 32)).g 31 true, (mQ 34 153 [33] c153).g 31 true, mU 35 (.pick 31 34 (.c (.b false))), mM 36 35, (mF 6 37 1).g 36 true, (mR 38 (.ldN 2 37)).g 36 true, (mQ 39 153 [38] c153).g 36 true, mU 40 (.pick 36 39 (.c (.b false))), mM 41 40, (mF 4 42 1).g 41 true, (mR 43 (.ldN 2 42)).g 41 true, (mQ 44 154 [43] c154).g 41 true, mU 45 (.pick 41 44 (.c (.b false))), mM 46 45, (mF 8 47 1).g 46 true, (mR 48 (.ldN 2 47)).g 46 true, (mQ 49 154 [48] c154).g 46 true, mU 50 (.pick 46 49 (.c (.b false))), mM 3 50]) (.join [1, 3] [] (.reg [mM 51 3, mM 52 51, (mF 1 53 1).g 52 true, (mL 54 53).g 52 true, (mB .neq 55 54 (.c 1)).g 52 true, (mM 56 55).g 52 true, (mF 4 57 1).g 56 false, (mR 58 (.ldN 2 57)).g 56 false, (mQ 59 156 [58] c156).g 56 false, (mQ 60 155 [59] c155).g 56 false, (mM 61 60).g 56 false, (mF 8 62 1).g 61 true, (mR 63 (.ldN 2 62)).g 61 true, (mQ 64 156 [63] c156).g 61 true, (mQ 65 155 [64] c155).g 61 true, (mU 66 (.pick 61 65 (.c (.b false)))).g 56 false, (mU 67 (.pick 56 (.c (.b true)) 66)).g 52 true, mU 68 (.pick 52 67 (.c (.b false))), mM 3 68]) (.join [1, 3] [] (.reg [mM 69 3, mM 70 69, (mF 11 71 1).g 70 true, (mL 72 71).g 70 true, (mQ 73 152 [72, .c 0, .c 2] c152).g 70 true, mU 74 (.pick 70 73 (.c (.b false))), mM 75 74, (mF 13 76 1).g 75 true, (mL 77 76).g 75 true, (mQ 78 152 [77, .c 1, .c 999999999] c152).g 75 true, mU 79 (.pick 75 78 (.c (.b false))), mM 80 79, (mF 14 81 1).g 80 true, (mL 82 81).g 80 true, (mQ 83 152 [82, .c 1, .c 999999999] c152).g 80 true, mU 84 (.pick 80 83 (.c (.b false))), mM 85 84, (mF 12 86 1).g 85 true, (mL 87 86).g 85 true, (mU 88 (.lenSl 87)).g 85 true, (mB .leq 89 88 (.c 4)).g 85 true, mU 90 (.pick 85 89 (.c (.b false))), mM 3 90]) (.seq (.reg [mK 4 (.b false)]) (.seq (.join [3, 4, 92, 93, 94] [] (.reg [mF 12 91 1, mL 92 91, mU 93 (.lenSl 92), mK 94 0]) (.block 0 (.loop [3, 4, 94] [92, 93] (.seq (.reg [mB .lss 95 94 93]) (.seq (.cond 95 .skip (.exit 0)) (.seq (.block 1 (.seq (.reg [mU 96 (.idxAddrSl 8 92 94), mR 97 (.ldN 8 96), mN 6 (.newz [.s [], .b false, .b false, 0, 0, .b false, 0, 0]), mZ (.st 8 6 97)]) (.seq (.reg [mM 98 3, mM 99 98, (mR 100 (.ldN 8 6)).g 99 true, (mM 101 4).g 99 true, (mQ 102 157 [100, 101] c157).g 99 true, mU 103 (.pick 99 102 (.c (.b false))), mM 3 103]) (.reg [mM 104 4, mM 105 104, (mF 2 106 6).g 105 false, (mL 107 106).g 105 false, (mU 108 (.un .not 107)).g 105 false, mU 109 (.pick 105 (.c (.b true)) 108), mM 4 109])))) (.reg [mB .add 110 94 (.c 1), mM 94 110]))))))) (.seq (.reg [mM 111 3, mM 2 111]) .ret)))))))
def r92 : List ARes := [.t 2]
theorem k92 (c152 : T 152) (c153 : T 153) (c154 : T 154) (c155 : T 155) (c156 : T 156) (c157 : T 157) : compFn Tryz.prog 92 = some ⟨112, (s92 c152 c153 c154 c155 c156 c157).er, r92⟩ := by kernel_rfl
abbrev q92 (O : Ops Tryz.prog) (c152 : T 152) (c153 : T 153) (c154 : T 154) (c155 : T 155) (c156 : T 156) (c157 : T 157) := curF 1 (sfn O (s92 c152 c153 c154 c155 c156 c157) r92)
def g92 : { g // g = q92 } := by
  have h : q92 = q92 := rfl
  conv at h => rhs; reduce
  exact ⟨_, h.symm⟩
def C92 : T 92 := mkRun 1 (k92 C152 C153 C154 C155 C156 C157) (by decide) (g92.1 (theOps Tryz.prog) C152 C153 C154 C155 C156 C157) (by rw [g92.2])
def s93 : S := .seq (.reg [mK 2 0]) (.seq (.reg [mN 6 .mkmap, mM 3 6]) (.seq (.seq (.reg [mM 7 0, mU 8 (.lenSl 7), mK 9 0]) (.block 0 (.loop [9] [3, 7, 8] (.seq (.reg [mB .lss 10 9 8]) (.seq (.cond 10 .skip (.exit 0)) (.seq (.block 1 (.seq (.reg [mM 11 9, mU 12 (.idxAddrSl 15 7 9), mR 13 (.ldN 15 12), mN 5 (.newz [0, 0, .b false, .sl 0 none 0 0, .b false, .sl 0 none 0 0, .b false, .sl 0 none 0 0, .b false, .sl 0 none 0 0, .b false, 0, .sl 0 none 0 0, 0, 0]), mM 4 11, mZ (.st 15 5 13)]) (.seq (.seq (.reg [mM 14 3, mF 13 15 5, mL 16 15, mR 17 (.lookup (.one .i) (.b false) false 14 16)]) (.cond 17 (.seq (.reg [mM 18 4, mM 2 18]) .ret) .skip)) (.reg [mM 19 3, mF 13 20 5, mL 21 20, mZ (.mapUpd (.one .i) 19 21 (.c (.b true)))])))) (.reg [mB .add 22 9 (.c 1), mM 9 22]))))))) (.seq (.reg [mK 2 (.i .i64 (-1))]) .ret)))
def r93 : List ARes := [.t 2]
theorem k93 : compFn Tryz.prog 93 = some ⟨23, (s93).er, r93⟩ := by kernel_rfl
abbrev q93 (O : Ops Tryz.prog) := curF 1 (sfn O (s93) r93)
def g93 : { g // g = q93 } := by
  have h : q93 = q93 := rfl
  conv at h => rhs; reduce
  exact ⟨_, h.symm⟩
def C93 : T 93 := mkRun 1 (k93) (by decide) (g93.1 (theOps Tryz.prog)) (by rw [g93.2])
def s44 (c90 : T 90) (c91 : T 91) (c92 : T 92) (c93 : T 93) : S := .seq (.reg [mK 2 (.sl 0 none 0 0), mK 3 0, mK 4 0]) (.join [3, 4, 5] [] (.reg [mM 12 0, mQ 13 90 [12] c90, mM 11 13, mU 14 (.extract 0 11), mU 15 (.extract 1 11), mU 16 (.extract 2 11), mM 5 14, mM 3 15, mM 4 16]) (.seq (.seq (.reg [mM 17 4, mB .neq 18 17 (.c 0)]) (.cond 18 (.seq (.reg [mM 19 3, mM 20 4, mK 2 (.sl 0 none 0 0), mM 3 19, mM 4 20]) .ret) .skip)) (.join [6] [] (.reg [mM 21 5, mN 22 .mkmap, mU 23 (.build [.sl 0 none 0 0, 0, .m none, 0, .b false, .sl 0 none 0 0, .sl 0 none 0 0] [(0, (1, 21)), (2, (1, 22))]), mN 24 (.box 23), mM 6 24]) (.join [6] [] (.seq (.reg [mM 25 6, mQ 26 91 [25] c91, mM 7 26]) (.seq (.reg [mM 27 7, mB .gtr 28 27 (.c 0)]) (.cond 28 (.seq (.reg [mM 29 7, mK 2 (.sl 0 none 0 0), mM 3 29, mK 4 6]) .ret) .skip))) (.join [6] [] (.seq (.reg [mM 30 6, mU 31 (.nilCheck 30), mF 4 32 31, mL 33 32, mM 34 33, (mM 35 6).g 34 false, (mU 36 (.nilCheck 35)).g 34 false, (mF 5 37 36).g 34 false, (mL 38 37).g 34 false, (mU 39 (.lenSl 38)).g 34 false, (mB .gtr 40 39 (.c 40)).g 34 false, mU 41 (.pick 34 (.c (.b true)) 40), mM 42 41, (mM 43 6).g 42 false, (mU 44 (.nilCheck 43)).g 42 false, (mF 3 45 44).g 42 false, (mL 46 45).g 42 false, (mB .gtr 47 46 (.c 16)).g 42 false, mU 48 (.pick 42 (.c (.b true)) 47)]) (.cond 48 (.seq (.reg [mK 2 (.sl 0 none 0 0), mK 3 0, mK 4 5]) .ret) .skip)) (.join [6] [] (.join [6, 52, 53, 54] [] (.reg [mM 49 6, mU 50 (.nilCheck 49), mF 5 51 50, mL 52 51, mU 53 (.lenSl 52), mK 54 0]) (.block 0 (.loop [54] [6, 52, 53] (.seq (.reg [mB .lss 55 54 53]) (.seq (.cond 55 .skip (.exit 0)) (.seq (.block 1 (.join [6, 8, 9, 52, 53, 54] [] (.reg [mM 56 54, mU 57 (.idxAddrSl 15 52 54), mR 58 (.ldN 15 57), mN 9 (.newz [0, 0, .b false, .sl 0 none 0 0, .b false, .sl 0 none 0 0, .b false, .sl 0 none 0 0, .b false, .sl 0 none 0 0, .b false, 0, .sl 0 none 0 0, 0, 0]), mM 8 56, mZ (.st 15 9 58)]) (.join [6, 8, 52, 53, 54, 61] [] (.reg [mR 59 (.ldN 15 9), mQ 60 92 [59] c92, mU 61 (.un .not 60)]) (.cond 61 (.seq (.draw 0 [⟨[], [dP 0 62 (.mv 6) 0, dP 1 63 (.nilCheck 62) 0, dP 2 64 (.fieldAddr 6 63) 0, dR 3 65 (.ld1 64) 0, dP 4 66 (.mv 8) 0, dP 5 67 (.idxAddrSl 1 65 66) 0, dR 6 68 (.ld1 67) 0, dP 7 2 (.mv (.c (.sl 0 none 0 0))) 0, dP 8 3 (.mv 68) 0, dP 9 4 (.mv (.c 7)) 0], none⟩]) .ret) .skip)))) (.reg [mB .add 69 54 (.c 1), mM 54 69]))))))) (.seq (.join [6, 10] [] (.reg [mM 70 6, mU 71 (.nilCheck 70), mF 5 72 71, mL 73 72, mQ 74 93 [73] c93, mM 10 74]) (.seq (.reg [mM 75 10, mB .geq 76 75 (.c 0)]) (.cond 76 (.seq (.draw 0 [⟨[], [dP 0 77 (.mv 6) 0, dP 1 78 (.nilCheck 77) 0, dP 2 79 (.fieldAddr 6 78) 0, dR 3 80 (.ld1 79) 0, dP 4 81 (.mv 10) 0, dP 5 82 (.idxAddrSl 1 80 81) 0, dR 6 83 (.ld1 82) 0, dP 7 2 (.mv (.c (.sl 0 none 0 0))) 0, dP 8 3 (.mv 83) 0, dP 9 4 (.mv (.c 8)) 0], none⟩]) .ret) .skip))) (.seq (.reg [mM 84 6, mU 85 (.nilCheck 84), mF 5 86 85, mL 87 86, mM 2 87, mK 3 0, mK 4 0]) .ret))))))))
def r44 : List ARes := [.t 2, .t 3, .t 4]
theorem k44 (c90 : T 90) (c91 : T 91) (c92 : T 92) (c93 : T 93) : compFn Tryz.prog 44 = some ⟨88, (s44 c90 c91 c92 c93).er, r44⟩ := by kernel_rfl
abbrev q44 (O : Ops Tryz.prog) (c90 : T 90) (c91 : T 91) (c92 : T 92) (c93 : T 93) := curF 1 (sfn O (s44 c90 c91 c92 c93) r44)
def g44 : { g // g = q44 } := by
  have h : q44 = q44 := rfl
  conv at h => rhs; reduce
  exact ⟨_, h.symm⟩
def C44 : T 44 := mkRun 1 (k44 C90 C91 C92 C93) (by decide) (g44.1 (theOps Tryz.prog) C90 C91 C92 C93) (by rw [g44.2])
def s45 : S := .seq (.reg [mK 2 (.s [])]) (.seq (.reg [mM 6 0, mN 7 (.s2b 6), mM 3 7]) (.seq (.seq (.reg [mM 8 3, mU 9 (.lenSl 8), mK 10 0]) (.block 0 (.loop [10] [3, 8, 9] (.seq (.reg [mB .lss 11 10 9]) (.seq (.cond 11 .skip (.exit 0)) (.join [3, 8, 9, 10] [] (.block 1 (.seq (.reg [mM 12 10, mU 13 (.idxAddrSl 1 8 10), mL 14 13, mM 4 12, mM 5 14]) (.seq (.reg [mM 15 5, mB .geq 16 15 (.c (.i .u8 65)), mM 17 16, (mM 18 5).g 17 true, (mB .leq 19 18 (.c (.i .u8 90))).g 17 true, mU 20 (.pick 17 19 (.c (.b false)))]) (.cond 20 (.reg [mM 21 3, mM 22 4, mM 23 5, mB .sub 24 23 (.c (.i .u8 65)), mB .add 25 24 (.c (.i .u8 97)), mU 26 (.idxAddrSl 1 21 22), mZ (.st 1 26 25)]) .skip)))) (.reg [mB .add 27 10 (.c 1), mM 10 27]))))))) (.seq (.reg [mM 28 3, mR 29 (.b2s 28), mM 2 29]) .ret)))
def r45 : List ARes := [.t 2]
theorem k45 : compFn Tryz.prog 45 = some ⟨30, (s45).er, r45⟩ := by kernel_rfl
abbrev q45 (O : Ops Tryz.prog) := curF 1 (sfn O (s45) r45)
def g45 : { g // g = q45 } := by
  have h : q45 = q45 := rfl
  conv at h => rhs; reduce
  exact ⟨_, h.symm⟩
def C45 : T 45 := mkRun 1 (k45) (by decide) (g45.1 (theOps Tryz.prog)) (by rw [g45.2])
def s94 : S := .seq (.reg [mK 0 (.p none)]) (.seq (.draw 7 [⟨[], [⟨0, ⟨some 1, .alloc .mkmap, none⟩, 0⟩, ⟨1, ⟨some 2, .alloc (.mkslice 2 16 [0, .i .u8 0] (.c 1) (.c 1)), none⟩, 0⟩, ⟨2, ⟨some 3, .alloc (.mkslice 1 24 [.sl 0 none 0 0] (.c 1) (.c 1)), none⟩, 0⟩, ⟨3, ⟨some 4, .alloc (.mkslice 1 8 [0] (.c 1) (.c 1)), none⟩, 0⟩, dP 4 5 (.build [.m none, .sl 0 none 0 0, .sl 0 none 0 0, .sl 0 none 0 0, 0] [(0, (1, 1)), (1, (1, 2)), (2, (1, 3)), (3, (1, 4))]) 0, ⟨5, ⟨some 6, .alloc (.box 5), none⟩, 0⟩, dP 6 0 (.mv 6) 0], none⟩]) .ret)
def r94 : List ARes := [.t 0]
theorem k94 : compFn Tryz.prog 94 = some ⟨7, (s94).er, r94⟩ := by kernel_rfl
abbrev q94 (O : Ops Tryz.prog) := curF 0 (sfn O (s94) r94)
def g94 : { g // g = q94 } := by
  have h : q94 = q94 := rfl
  conv at h => rhs; reduce
  exact ⟨_, h.symm⟩
def C94 : T 94 := mkRun 0 (k94) (by decide) (g94.1 (theOps Tryz.prog)) (by rw [g94.2])
def s95 : S := .seq (.reg [mK 4 0]) (.seq (.reg [mK 5 0]) (.join [0, 5] [] (.join [0, 5, 16, 17, 18] [] (.reg [mM 11 1, mM 12 1, mU 13 (.lenS 12), mU 14 (.mxmn false [13, .c 16]), mU 15 (.slStr 11 none (some 14)), mN 16 (.s2b 15), mU 17 (.lenSl 16), mK 18 0]) (.block 0 (.loop [5, 18] [0, 16, 17] (.seq (.reg [mB .lss 19 18 17]) (.seq (.cond 19 .skip (.exit 0)) (.seq (.block 1 (.join [0, 5, 7, 16, 17, 18] [] (.reg [mU 20 (.idxAddrSl 1 16 18), mL 21 20, mM 7 21]) (.join [0, 5, 8, 16, 17, 18] [] (.reg [mM 22 5, mM 23 7, mU 24 (.build [0, .i .u8 0] [(0, (1, 22)), (1, (1, 23))]), mN 8 (.newz [0, .i .u8 0]), mZ (.st 2 8 24)]) (.join [0, 5, 8, 9, 10, 16, 17, 18] [] (.draw 0 [⟨[], [dP 0 26 (.mv 0) 0, dP 1 27 (.nilCheck 26) 0, dP 2 28 (.fieldAddr 0 27) 0, dR 3 29 (.ld1 28) 0, dR 4 30 (.ldN 2 8) 0, dR 5 31 (.lookup (.flat [(0, .i), (1, .i)]) 0 true 29 30) 0, dP 6 25 (.mv 31) 0, dP 7 32 (.extract 0 25) 0, dP 8 33 (.extract 1 25) 0, dP 9 9 (.mv 32) 0, dP 10 10 (.mv 33) 0], none⟩]) (.join [0, 9, 16, 17, 18] [] (.seq (.reg [mM 34 10, mU 35 (.un .not 34)]) (.cond 35 (.join [0, 5, 8, 9, 16, 17, 18] [] (.reg [mM 36 0, mU 37 (.nilCheck 36), mF 1 38 37, mL 39 38, mU 40 (.lenSl 39), mM 9 40]) (.join [0, 5, 8, 9, 16, 17, 18] [] (.draw 0 [⟨[], [dP 0 41 (.mv 0) 0, dP 1 42 (.nilCheck 41) 0, dP 2 43 (.fieldAddr 0 42) 0, dR 3 44 (.ld1 43) 0, dR 4 45 (.ldN 2 8) 0, dP 5 46 (.mv 9) 0], some (mZ (.mapUpd (.flat [(0, .i), (1, .i)]) 44 45 46))⟩, ⟨[], [], none⟩]) (.draw 39 [⟨[], [dP 0 47 (.mv 0) 3, dP 1 48 (.mv 0) 4, dP 2 49 (.mv 0) 5, dP 3 50 (.mv 0) 0, dP 4 51 (.nilCheck 50) 0, dP 5 52 (.fieldAddr 1 51) 0, dR 6 53 (.ld1 52) 0, dR 7 54 (.ldN 2 8) 0, ⟨8, ⟨some 55, .alloc (.bslice 2 1 [0, .i .u8 0] [(0, (2, 54))]), none⟩, 0⟩, dP 10 57 (.mv 0) 1, dP 11 58 (.nilCheck 57) 1, dP 12 59 (.fieldAddr 2 58) 1, dR 13 60 (.ld1 59) 1, ⟨14, ⟨some 61, .alloc (.bslice 1 1 [.sl 0 none 0 0] [(0, (1, .c (.sl 0 none 0 0)))]), none⟩, 1⟩, dP 16 63 (.mv 0) 2, dP 17 64 (.nilCheck 63) 2, dP 18 65 (.fieldAddr 3 64) 2, dR 19 66 (.ld1 65) 2, dP 20 67 (.mv 0) 2, dP 21 68 (.nilCheck 67) 2, dP 22 69 (.fieldAddr 3 68) 2, dR 23 70 (.ld1 69) 2, dP 24 71 (.mv 5) 2, dP 25 72 (.idxAddrSl 1 70 71) 2, dR 26 73 (.ld1 72) 2, dP 27 74 (.bin .add 73 (.c 1)) 2, ⟨28, ⟨some 75, .alloc (.bslice 1 1 [0] [(0, (1, 74))]), none⟩, 2⟩], some (mY 56 (.append 2 16 53 55))⟩, ⟨[⟨some 60, .read (.ld1 59), none⟩, ⟨some 66, .read (.ld1 65), none⟩, ⟨some 70, .read (.ld1 69), none⟩, ⟨some 73, .read (.ld1 72), none⟩], [], some (mY 62 (.append 1 24 60 61))⟩, ⟨[⟨some 66, .read (.ld1 65), none⟩, ⟨some 70, .read (.ld1 69), none⟩, ⟨some 73, .read (.ld1 72), none⟩], [], some (mY 76 (.append 1 8 66 75))⟩, ⟨[], [dP 30 77 (.nilCheck 47) 3, dP 31 78 (.fieldAddr 1 77) 3], some (mZ (.st 1 78 56))⟩, ⟨[], [dP 33 79 (.nilCheck 48) 4, dP 34 80 (.fieldAddr 2 79) 4], some (mZ (.st 1 80 62))⟩, ⟨[], [dP 36 81 (.nilCheck 49) 5, dP 37 82 (.fieldAddr 3 81) 5], some (mZ (.st 1 82 76))⟩, ⟨[], [], none⟩]))) .skip)) (.reg [mM 83 9, mM 5 83])))))) (.reg [mB .add 84 18 (.c 1), mM 18 84]))))))) (.join [0] [] (.draw 20 [⟨[], [dP 0 85 (.mv 0) 1, dP 1 86 (.nilCheck 85) 1, dP 2 87 (.fieldAddr 2 86) 1, dR 3 88 (.ld1 87) 1, dP 4 89 (.mv 5) 1, dP 5 90 (.mv 0) 0, dP 6 91 (.nilCheck 90) 0, dP 7 92 (.fieldAddr 2 91) 0, dR 8 93 (.ld1 92) 0, dP 9 94 (.mv 5) 0, dP 10 95 (.idxAddrSl 1 93 94) 0, dR 11 96 (.ld1 95) 0, dP 12 97 (.mv 0) 0, dP 13 98 (.nilCheck 97) 0, dP 14 99 (.fieldAddr 4 98) 0, dR 15 100 (.ld1 99) 0, ⟨16, ⟨some 101, .alloc (.bslice 1 1 [0] [(0, (1, 100))]), none⟩, 0⟩], some (mY 102 (.append 1 8 96 101))⟩, ⟨[⟨some 88, .read (.ld1 87), none⟩], [dP 18 103 (.idxAddrSl 1 88 89) 1], some (mZ (.st 1 103 102))⟩, ⟨[], [], none⟩]) (.seq (.reg [mM 104 0, mU 105 (.nilCheck 104), mF 4 106 105, mL 107 106, mB .add 108 107 (.c 1), mU 109 (.nilCheck 104), mF 4 110 109, mZ (.st 1 110 108)]) (.seq (.reg [mM 111 0, mU 112 (.nilCheck 111), mF 4 113 112, mL 114 113, mB .sub 115 114 (.c 1), mM 4 115]) .ret)))))
def r95 : List ARes := [.t 4]
theorem k95 : compFn Tryz.prog 95 = some ⟨116, (s95).er, r95⟩ := by kernel_rfl
abbrev q95 (O : Ops Tryz.prog) := curF 2 (sfn O (s95) r95)
def g95 : { g // g = q95 } := by
  have h : q95 = q95 := rfl
  conv at h => rhs; reduce
  exact ⟨_, h.symm⟩
def C95 : T 95 := mkRun 2 (k95) (by decide) (g95.1 (theOps Tryz.prog)) (by rw [g95.2])
def s96 : S := .seq (.reg [mK 2 0]) (.seq (.reg [mM 3 0, mU 4 (.nilCheck 3), mF 1 5 4, mL 6 5, mU 7 (.lenSl 6), mM 2 7]) .ret)
def r96 : List ARes := [.t 2]
theorem k96 : compFn Tryz.prog 96 = some ⟨8, (s96).er, r96⟩ := by kernel_rfl
abbrev q96 (O : Ops Tryz.prog) := curF 1 (sfn O (s96) r96)
def g96 : { g // g = q96 } := by
  have h : q96 = q96 := rfl
  conv at h => rhs; reduce
  exact ⟨_, h.symm⟩
def C96 : T 96 := mkRun 1 (k96) (by decide) (g96.1 (theOps Tryz.prog)) (by rw [g96.2])
def s158 : S := .seq (.reg [mK 2 (.sl 0 none 0 0)]) (.seq (.seq (.reg [mM 3 0, mU 4 (.isNil 0 false 3 (.c (.sl 0 none 0 0)))]) (.cond 4 (.seq (.reg [mK 2 (.sl 0 none 0 0)]) .ret) .skip)) (.seq (.reg [mN 5 (.bslice 1 0 [] []), mM 6 0, mY 7 (.append 1 8 5 6), mM 2 7]) .ret))
def r158 : List ARes := [.t 2]
theorem k158 : compFn Tryz.prog 158 = some ⟨8, (s158).er, r158⟩ := by kernel_rfl
abbrev q158 (O : Ops Tryz.prog) := curF 1 (sfn O (s158) r158)
def g158 : { g // g = q158 } := by
  have h : q158 = q158 := rfl
  conv at h => rhs; reduce
  exact ⟨_, h.symm⟩
def C158 : T 158 := mkRun 1 (k158) (by decide) (g158.1 (theOps Tryz.prog)) (by rw [g158.2])
def s241 : S := .seq (.reg [mK 4 (.b false)]) (.seq (.reg [mM 5 1, mB .lss 6 5 (.c 0), mM 7 6, (mM 8 1).g 7 false, (mM 9 0).g 7 false, (mU 10 (.nilCheck 9)).g 7 false, (mF 1 11 10).g 7 false, (mL 12 11).g 7 false, (mU 13 (.lenSl 12)).g 7 false, (mB .geq 14 8 13).g 7 false, mU 15 (.pick 7 (.c (.b true)) 14), mM 4 15]) .ret)
def r241 : List ARes := [.t 4]
theorem k241 : compFn Tryz.prog 241 = some ⟨16, (s241).er, r241⟩ := by kernel_rfl
abbrev q241 (O : Ops Tryz.prog) := curF 2 (sfn O (s241) r241)
def g241 : { g // g = q241 } := by
  have h : q241 = q241 := rfl
  conv at h => rhs; reduce
  exact ⟨_, h.symm⟩
def C241 : T 241 := mkRun 2 (k241) (by decide) (g241.1 (theOps Tryz.prog)) (by rw [g241.2])
def s159 (c158 : T 158) (c241 : T 241) : S := .seq (.reg [mK 4 (.sl 0 none 0 0)]) (.seq (.seq (.reg [mM 5 0, mM 6 1, mQ 7 241 [5, 6] c241]) (.cond 7 (.seq (.reg [mK 4 (.sl 0 none 0 0)]) .ret) .skip)) (.seq (.reg [mM 8 0, mU 9 (.nilCheck 8), mF 2 10 9, mL 11 10, mM 12 1, mU 13 (.idxAddrSl 1 11 12), mL 14 13, mQ 15 158 [14] c158, mM 4 15]) .ret))
def r159 : List ARes := [.t 4]
theorem k159 (c158 : T 158) (c241 : T 241) : compFn Tryz.prog 159 = some ⟨16, (s159 c158 c241).er, r159⟩ := by kernel_rfl
abbrev q159 (O : Ops Tryz.prog) (c158 : T 158) (c241 : T 241) := curF 2 (sfn O (s159 c158 c241) r159)
def g159 : { g // g = q159 } := by
  have h : q159 = q159 := rfl
  conv at h => rhs; reduce
  exact ⟨_, h.symm⟩
def C159 : T 159 := mkRun 2 (k159 C158 C241) (by decide) (g159.1 (theOps Tryz.prog) C158 C241) (by rw [g159.2])
def s361 : S := .seq (.reg [mK 2 (.b false)]) (.seq (.reg [mM 3 0, mM 4 0, mB .neq 5 3 4, mM 2 5]) .ret)
def r361 : List ARes := [.t 2]
theorem k361 : compFn Tryz.prog 361 = some ⟨6, (s361).er, r361⟩ := by kernel_rfl
abbrev q361 (O : Ops Tryz.prog) := curF 1 (sfn O (s361) r361)
def g361 : { g // g = q361 } := by
  have h : q361 = q361 := rfl
  conv at h => rhs; reduce
  exact ⟨_, h.symm⟩
def C361 : T 361 := mkRun 1 (k361) (by decide) (g361.1 (theOps Tryz.prog)) (by rw [g361.2])
def s315 (c361 : T 361) : S := .seq (.reg [mK 4 (.b false)]) (.seq (.reg [mM 5 0, mQ 6 361 [5] c361, mM 7 6, (mM 8 1).g 7 true, (mQ 9 361 [8] c361).g 7 true, (mU 10 (.un .not 9)).g 7 true, mU 11 (.pick 7 10 (.c (.b false))), mM 12 11, (mM 13 0).g 12 false, (mM 14 1).g 12 false, (mB .lss 15 13 14).g 12 false, mU 16 (.pick 12 (.c (.b true)) 15), mM 4 16]) .ret)
def r315 : List ARes := [.t 4]
theorem k315 (c361 : T 361) : compFn Tryz.prog 315 = some ⟨17, (s315 c361).er, r315⟩ := by kernel_rfl
abbrev q315 (O : Ops Tryz.prog) (c361 : T 361) := curF 2 (sfn O (s315 c361) r315)
def g315 : { g // g = q315 } := by
  have h : q315 = q315 := rfl
  conv at h => rhs; reduce
  exact ⟨_, h.symm⟩
def C315 : T 315 := mkRun 2 (k315 C361) (by decide) (g315.1 (theOps Tryz.prog) C361) (by rw [g315.2])
def s309 (c315 : T 315) : S := .seq (.reg [mM 8 1, mB .add 9 8 (.c 1), mM 6 9]) (.block 0 (.loop [6] [0, 1, 2] (.seq (.seq (.reg [mM 10 6, mM 11 2, mB .lss 12 10 11]) (.cond 12 .skip (.exit 0))) (.seq (.block 1 (.seq (.reg [mM 15 6, mM 7 15]) (.block 2 (.loop [7] [0, 1, 2, 6] (.join [0, 1, 2, 6, 7] [] (.seq (.draw 0 [⟨[], [dP 0 16 (.mv 7) 0, dP 1 17 (.mv 1) 0, dP 2 18 (.bin .gtr 16 17) 0, dP 3 19 (.mv 18) 0, ⟨4, ⟨some 20, .pure (.mv 0), some (19, true)⟩, 0⟩, ⟨5, ⟨some 21, .pure (.mv 7), some (19, true)⟩, 0⟩, ⟨6, ⟨some 22, .pure (.idxAddrSl 1 20 21), some (19, true)⟩, 0⟩, ⟨7, ⟨some 23, .read (.ld1 22), some (19, true)⟩, 0⟩, ⟨8, ⟨some 24, .pure (.mv 0), some (19, true)⟩, 0⟩, ⟨9, ⟨some 25, .pure (.mv 7), some (19, true)⟩, 0⟩, ⟨10, ⟨some 26, .pure (.bin .sub 25 (.c 1)), some (19, true)⟩, 0⟩, ⟨11, ⟨some 27, .pure (.idxAddrSl 1 24 26), some (19, true)⟩, 0⟩, ⟨12, ⟨some 28, .read (.ld1 27), some (19, true)⟩, 0⟩], some ((mQ 29 315 [23, 28] c315).g 19 true)⟩, ⟨[], [dP 14 30 (.pick 19 29 (.c (.b false))) 1], none⟩]) (.cond 30 .skip (.exit 2))) (.seq (.block 3 (.draw 0 [⟨[], [dP 0 33 (.mv 0) 0, dP 1 34 (.mv 7) 0, dP 2 35 (.mv 0) 1, dP 3 36 (.mv 7) 1, dP 4 37 (.bin .sub 36 (.c 1)) 1, dP 5 38 (.mv 0) 0, dP 6 39 (.mv 7) 0, dP 7 40 (.bin .sub 39 (.c 1)) 0, dP 8 41 (.idxAddrSl 1 38 40) 0, dR 9 42 (.ld1 41) 0, dP 10 43 (.mv 0) 0, dP 11 44 (.mv 7) 0, dP 12 45 (.idxAddrSl 1 43 44) 0, dR 13 46 (.ld1 45) 0, dP 14 47 (.idxAddrSl 1 33 34) 0], some (mZ (.st 1 47 42))⟩, ⟨[], [dP 16 48 (.idxAddrSl 1 35 37) 1], some (mZ (.st 1 48 46))⟩, ⟨[], [], none⟩])) (.reg [mM 31 7, mB .sub 32 31 (.c 1), mM 7 32]))))))) (.reg [mM 13 6, mB .add 14 13 (.c 1), mM 6 14])))))
def r309 : List ARes := []
theorem k309 (c315 : T 315) : compFn Tryz.prog 309 = some ⟨49, (s309 c315).er, r309⟩ := by kernel_rfl
abbrev q309 (O : Ops Tryz.prog) (c315 : T 315) := curF 3 (sfn O (s309 c315) r309)
def g309 : { g // g = q309 } := by
  have h : q309 = q309 := rfl
  conv at h => rhs; reduce
  exact ⟨_, h.symm⟩
def C309 : T 309 := mkRun 3 (k309 C315) (by decide) (g309.1 (theOps Tryz.prog) C315) (by rw [g309.2])
def s242 (c309 : T 309) : S := .seq (.reg [mK 8 (.b true)]) (.seq (.reg [mK 9 (.b true)]) (.block 0 (.loop [1, 2, 3, 8, 9] [0] (.block 1 (.seq (.reg [mM 19 2, mM 20 1, mB .sub 21 19 20, mM 10 21]) (.join [0, 1, 2, 3, 8, 9, 10] [] (.seq (.reg [mM 22 10, mB .leq 23 22 (.c 12)]) (.cond 23 (.seq (.reg [mM 24 0, mM 25 1, mM 26 2, mQ 27 309 [24, 25, 26] c309]) .ret) .skip)) (.join [0, 1, 2, 3, 8, 9, 10] [] (.seq (.reg [mM 28 3, mB .eql 29 28 (.c 0)]) (.cond 29 (.seq (.reg [mM 30 0, mM 31 1, mM 32 2, mQ 33 310 [30, 31, 32] (noC _ 310)]) .ret) .skip)) (.join [0, 1, 2, 3, 8, 9, 10] [] (.seq (.reg [mM 34 8, mU 35 (.un .not 34)]) (.cond 35 (.seq (.reg [mM 36 0, mM 37 1, mM 38 2, mQ 39 311 [36, 37, 38] (noC _ 311)]) (.reg [mM 40 3, mB .sub 41 40 (.c 1), mM 3 41])) .skip)) (.join [0, 1, 2, 3, 8, 9, 10, 11, 12] [] (.reg [mM 43 0, mM 44 1, mM 45 2, mQ 46 312 [43, 44, 45] (noC _ 312), mM 42 46, mU 47 (.extract 0 42), mU 48 (.extract 1 42), mM 11 47, mM 12 48]) (.join [0, 1, 2, 3, 8, 9, 10, 11, 12] [] (.seq (.reg [mM 49 12, mB .eql 50 49 (.c 2)]) (.cond 50 (.seq (.reg [mM 51 0, mM 52 1, mM 53 2, mQ 54 313 [51, 52, 53] (noC _ 313)]) (.seq (.reg [mM 55 2, mB .sub 56 55 (.c 1), mM 57 11, mM 58 1, mB .sub 59 57 58, mB .sub 60 56 59, mM 11 60]) (.reg [mK 12 1]))) .skip)) (.join [0, 1, 2, 3, 8, 9, 10, 11] [] (.seq (.reg [mM 61 8, mM 62 61, (mM 63 9).g 62 true, mU 64 (.pick 62 63 (.c (.b false))), mM 65 64, (mM 66 12).g 65 true, (mB .eql 67 66 (.c 1)).g 65 true, mU 68 (.pick 65 67 (.c (.b false)))]) (.cond 68 (.seq (.reg [mM 69 0, mM 70 1, mM 71 2, mQ 72 314 [69, 70, 71] (noC _ 314)]) (.cond 72 .ret .skip)) .skip)) (.join [0, 1, 2, 3, 10, 11] [] (.seq (.draw 0 [⟨[], [dP 0 73 (.mv 1) 0, dP 1 74 (.bin .gtr 73 (.c 0)) 0, dP 2 75 (.mv 74) 0, ⟨3, ⟨some 76, .pure (.mv 0), some (75, true)⟩, 0⟩, ⟨4, ⟨some 77, .pure (.mv 1), some (75, true)⟩, 0⟩, ⟨5, ⟨some 78, .pure (.bin .sub 77 (.c 1)), some (75, true)⟩, 0⟩, ⟨6, ⟨some 79, .pure (.idxAddrSl 1 76 78), some (75, true)⟩, 0⟩, ⟨7, ⟨some 80, .read (.ld1 79), some (75, true)⟩, 0⟩, ⟨8, ⟨some 81, .pure (.mv 0), some (75, true)⟩, 0⟩, ⟨9, ⟨some 82, .pure (.mv 11), some (75, true)⟩, 0⟩, ⟨10, ⟨some 83, .pure (.idxAddrSl 1 81 82), some (75, true)⟩, 0⟩, ⟨11, ⟨some 84, .read (.ld1 83), some (75, true)⟩, 0⟩], some ((mQ 85 315 [80, 84] (noC _ 315)).g 75 true)⟩, ⟨[], [⟨13, ⟨some 86, .pure (.un .not 85), some (75, true)⟩, 1⟩, dP 14 87 (.pick 75 86 (.c (.b false))) 1], none⟩]) (.cond 87 (.seq (.reg [mM 88 0, mM 89 1, mM 90 2, mM 91 11, mQ 92 316 [88, 89, 90, 91] (noC _ 316), mM 13 92]) (.seq (.reg [mM 93 13, mM 1 93]) (.exit 1))) .skip)) (.join [0, 1, 2, 3, 10, 14, 15] [] (.reg [mM 95 0, mM 96 1, mM 97 2, mM 98 11, mQ 99 317 [95, 96, 97, 98] (noC _ 317), mM 94 99, mU 100 (.extract 0 94), mU 101 (.extract 1 94), mM 14 100, mM 15 101]) (.seq (.reg [mM 102 15, mM 9 102]) (.seq (.reg [mM 103 14, mM 104 1, mB .sub 105 103 104, mM 106 2, mM 107 14, mB .sub 108 106 107, mM 16 105, mM 17 108]) (.seq (.reg [mM 109 10, mB .quo 110 109 (.c 8), mM 18 110]) (.seq (.reg [mM 111 16, mM 112 17, mB .lss 113 111 112]) (.cond 113 (.seq (.reg [mM 114 16, mM 115 18, mB .geq 116 114 115, mM 8 116]) (.seq (.reg [mM 117 0, mM 118 1, mM 119 14, mM 120 3, mQ 121 242 [117, 118, 119, 120] (noC _ 242)]) (.reg [mM 122 14, mB .add 123 122 (.c 1), mM 1 123]))) (.seq (.reg [mM 124 17, mM 125 18, mB .geq 126 124 125, mM 8 126]) (.seq (.reg [mM 127 0, mM 128 14, mB .add 129 128 (.c 1), mM 130 2, mM 131 3, mQ 132 242 [127, 129, 130, 131] (noC _ 242)]) (.reg [mM 133 14, mM 2 133])))))))))))))))))))))
def r242 : List ARes := []
theorem k242 (c309 : T 309) : compFn Tryz.prog 242 = some ⟨134, (s242 c309).er, r242⟩ := by kernel_rfl
abbrev q242 (O : Ops Tryz.prog) (c309 : T 309) := curF 4 (sfn O (s242 c309) r242)
def g242 : { g // g = q242 } := by
  have h : q242 = q242 := rfl
  conv at h => rhs; reduce
  exact ⟨_, h.symm⟩
def C242 : T 242 := mkRun 4 (k242 C309) (by decide) (g242.1 (theOps Tryz.prog) C309) (by rw [g242.2])
def s318 : S := .seq (.reg [mK 2 0]) (.join [0, 2] [] (.seq (.reg [mM 3 0, mB .geq 4 3 (.c (.i .u32 65536))]) (.cond 4 (.seq (.reg [mM 5 0, mB .shr 6 5 (.c (.i .u64 16)), mM 0 6]) (.reg [mK 2 16])) .skip)) (.join [0, 2] [] (.seq (.reg [mM 7 0, mB .geq 8 7 (.c (.i .u32 256))]) (.cond 8 (.seq (.reg [mM 9 0, mB .shr 10 9 (.c (.i .u64 8)), mM 0 10]) (.reg [mM 11 2, mB .add 12 11 (.c 8), mM 2 12])) .skip)) (.seq (.reg [mM 13 2, mM 14 0, mU 15 (.conv .u8 14), mU 16 (.idxStr (.c (.s [0, 1, 2, 2, 3, 3, 3, 3, 4, 4, 4, 4, 4, 4, 4, 4, 5, 5, 5, 5, 5, 5, 5, 5, 5, 5, 5, 5, 5, 5, 5, 5, 6, 6, 6, 6, 6, 6, 6, 6, 6, 6, 6, 6, 6, 6, 6, 6, 6, 6, 6, 6, 6, 6, 6, 6, 6, 6, 6, 6, 6, 6, 6, 6, 7, 7, 7, 7, 7, 7, 7, 7, 7, 7, 7, 7, 7, 7, 7, 7, 7, 7, 7, 7, 7, 7, 7, 7, 7, 7, 7, 7, 7, 7, 7, 7, 7, 7, 7, 7, 7, 7, 7, 7, 7, 7, 7, 7, 7, 7, 7, 7, 7, 7, 7, 7, 7, 7, 7, 7, 7, 7, 7, 7, 7, 7, 7, 7, 8, 8, 8, 8, 8, 8, 8, 8, 8, 8, 8, 8, 8, 8, 8, 8, 8, 8, 8, 8, 8, 8, 8, 8, 8, 8, 8, 8, 8, 8, 8, 8, 8, 8, 8, 8, 8, 8, 8, 8, 8, 8, 8, 8, 8, 8, 8, 8, 8, 8, 8, 8, 8, 8, 8, 8, 8, 8, 8, 8, 8, 8, 8, 8, 8, 8, 8, 8, 8, 8, 8, 8, 8, 8, 8, 8, 8, 8, 8, 8, 8, 8, 8, 8, 8, 8, 8, 8, 8, 8, 8, 8, 8, 8, 8, 8, 8, 8, 8, 8, 8, 8, 8, 8, 8, 8, 8, 8, 8, 8, 8, 8, 8, 8, 8, 8, 8, 8, 8, 8, 8, 8, 8, 8, 8, 8, 8, 8])) 15), mU 17 (.conv .i64 16), mB .add 18 13 17, mM 2 18]) .ret)))
def r318 : List ARes := [.t 2]
theorem k318 : compFn Tryz.prog 318 = some ⟨19, (s318).er, r318⟩ := by kernel_rfl
abbrev q318 (O : Ops Tryz.prog) := curF 1 (sfn O (s318) r318)
def g318 : { g // g = q318 } := by
  have h : q318 = q318 := rfl
  conv at h => rhs; reduce
  exact ⟨_, h.symm⟩
def C318 : T 318 := mkRun 1 (k318) (by decide) (g318.1 (theOps Tryz.prog)) (by rw [g318.2])
def s319 : S := .seq (.reg [mK 2 0]) (.join [0, 2] [] (.seq (.reg [mM 3 0, mB .geq 4 3 (.c (.i .u64 4294967296))]) (.cond 4 (.seq (.reg [mM 5 0, mB .shr 6 5 (.c (.i .u64 32)), mM 0 6]) (.reg [mK 2 32])) .skip)) (.join [0, 2] [] (.seq (.reg [mM 7 0, mB .geq 8 7 (.c (.i .u64 65536))]) (.cond 8 (.seq (.reg [mM 9 0, mB .shr 10 9 (.c (.i .u64 16)), mM 0 10]) (.reg [mM 11 2, mB .add 12 11 (.c 16), mM 2 12])) .skip)) (.join [0, 2] [] (.seq (.reg [mM 13 0, mB .geq 14 13 (.c (.i .u64 256))]) (.cond 14 (.seq (.reg [mM 15 0, mB .shr 16 15 (.c (.i .u64 8)), mM 0 16]) (.reg [mM 17 2, mB .add 18 17 (.c 8), mM 2 18])) .skip)) (.seq (.reg [mM 19 2, mM 20 0, mU 21 (.conv .u8 20), mU 22 (.idxStr (.c (.s [0, 1, 2, 2, 3, 3, 3, 3, 4, 4, 4, 4, 4, 4, 4, 4, 5, 5, 5, 5, 5, 5, 5, 5, 5, 5, 5, 5, 5, 5, 5, 5, 6, 6, 6, 6, 6, 6, 6, 6, 6, 6, 6, 6, 6, 6, 6, 6, 6, 6, 6, 6, 6, 6, 6, 6, 6, 6, 6, 6, 6, 6, 6, 6, 7, 7, 7, 7, 7, 7, 7, 7, 7, 7, 7, 7, 7, 7, 7, 7, 7, 7, 7, 7, 7, 7, 7, 7, 7, 7, 7, 7, 7, 7, 7, 7, 7, 7, 7, 7, 7, 7, 7, 7, 7, 7, 7, 7, 7, 7, 7, 7, 7, 7, 7, 7, 7, 7, 7, 7, 7, 7, 7, 7, 7, 7, 7, 7, 8, 8, 8, 8, 8, 8, 8, 8, 8, 8, 8, 8, 8, 8, 8, 8, 8, 8, 8, 8, 8, 8, 8, 8, 8, 8, 8, 8, 8, 8, 8, 8, 8, 8, 8, 8, 8, 8, 8, 8, 8, 8, 8, 8, 8, 8, 8, 8, 8, 8, 8, 8, 8, 8, 8, 8, 8, 8, 8, 8, 8, 8, 8, 8, 8, 8, 8, 8, 8, 8, 8, 8, 8, 8, 8, 8, 8, 8, 8, 8, 8, 8, 8, 8, 8, 8, 8, 8, 8, 8, 8, 8, 8, 8, 8, 8, 8, 8, 8, 8, 8, 8, 8, 8, 8, 8, 8, 8, 8, 8, 8, 8, 8, 8, 8, 8, 8, 8, 8, 8, 8, 8, 8, 8, 8, 8, 8, 8])) 21), mU 23 (.conv .i64 22), mB .add 24 19 23, mM 2 24]) .ret))))
def r319 : List ARes := [.t 2]
theorem k319 : compFn Tryz.prog 319 = some ⟨25, (s319).er, r319⟩ := by kernel_rfl
abbrev q319 (O : Ops Tryz.prog) := curF 1 (sfn O (s319) r319)
def g319 : { g // g = q319 } := by
  have h : q319 = q319 := rfl
  conv at h => rhs; reduce
  exact ⟨_, h.symm⟩
def C319 : T 319 := mkRun 1 (k319) (by decide) (g319.1 (theOps Tryz.prog)) (by rw [g319.2])
def s243 (c318 : T 318) (c319 : T 319) : S := .seq (.reg [mK 2 0]) (.seq (.cond (.c (.b false)) (.seq (.reg [mM 3 0, mU 4 (.conv .u32 3), mQ 5 318 [4] c318, mM 2 5]) .ret) .skip) (.seq (.reg [mM 6 0, mQ 7 319 [6] c319, mM 2 7]) .ret))
def r243 : List ARes := [.t 2]
theorem k243 (c318 : T 318) (c319 : T 319) : compFn Tryz.prog 243 = some ⟨8, (s243 c318 c319).er, r243⟩ := by kernel_rfl
abbrev q243 (O : Ops Tryz.prog) (c318 : T 318) (c319 : T 319) := curF 1 (sfn O (s243 c318 c319) r243)
def g243 : { g // g = q243 } := by
  have h : q243 = q243 := rfl
  conv at h => rhs; reduce
  exact ⟨_, h.symm⟩
def C243 : T 243 := mkRun 1 (k243 C318 C319) (by decide) (g243.1 (theOps Tryz.prog) C318 C319) (by rw [g243.2])
def s160 (c242 : T 242) (c243 : T 243) : S := .seq (.reg [mM 3 0, mU 4 (.lenSl 3), mM 2 4]) (.reg [mM 5 0, mM 6 2, mM 7 2, mU 8 (.conv .u64 7), mQ 9 243 [8] c243, mQ 10 242 [5, .c 0, 6, 9] c242])
def r160 : List ARes := []
theorem k160 (c242 : T 242) (c243 : T 243) : compFn Tryz.prog 160 = some ⟨11, (s160 c242 c243).er, r160⟩ := by kernel_rfl
abbrev q160 (O : Ops Tryz.prog) (c242 : T 242) (c243 : T 243) := curF 1 (sfn O (s160 c242 c243) r160)
def g160 : { g // g = q160 } := by
  have h : q160 = q160 := rfl
  conv at h => rhs; reduce
  exact ⟨_, h.symm⟩
def C160 : T 160 := mkRun 1 (k160 C242 C243) (by decide) (g160.1 (theOps Tryz.prog) C242 C243) (by rw [g160.2])
def C161 : T 161 := runChild
def s97 (c158 : T 158) (c159 : T 159) (c160 : T 160) (c161 : T 161) : S := .seq (.reg [mK 6 (.sl 0 none 0 0)]) (.join [0, 1, 2, 7] [] (.reg [mM 12 0, mU 13 (.nilCheck 12), mF 1 14 13, mL 15 14, mM 16 2, mU 17 (.idxAddrSl 1 15 16), mL 18 17, mM 7 18]) (.join [0, 1, 2, 7] [] (.seq (.reg [mM 19 2, mB .gtr 20 19 (.c 0)]) (.cond 20 (.join [0, 1, 2, 7] [] (.draw 0 [⟨[], [dP 0 21 (.mv 0) 0, dP 1 22 (.nilCheck 21) 0, dP 2 23 (.fieldAddr 0 22) 0, dR 3 24 (.ld1 23) 0, dP 4 25 (.mv 2) 0, dP 5 26 (.mv 0) 0, dP 6 27 (.nilCheck 26) 0, dP 7 28 (.fieldAddr 0 27) 0, dR 8 29 (.ld1 28) 0, dP 9 30 (.mv 7) 0, dP 10 31 (.idxAddrSl 256 29 30) 0, dR 11 32 (.ldN 256 31) 0, dP 12 33 (.idxAddrSl 256 24 25) 0], some (mZ (.st 256 33 32))⟩, ⟨[], [], none⟩]) (.seq (.draw 0 [⟨[], [dP 0 34 (.mv 0) 3, dP 1 35 (.nilCheck 34) 3, dP 2 36 (.fieldAddr 2 35) 3, dR 3 37 (.ld1 36) 3, dP 4 38 (.mv 2) 3, dP 5 39 (.mv 0) 0, dP 6 40 (.nilCheck 39) 0, dP 7 41 (.fieldAddr 2 40) 0, dR 8 42 (.ld1 41) 0, dP 9 43 (.mv 7) 0, dP 10 44 (.idxAddrSl 1 42 43) 0, dR 11 45 (.ld1 44) 0, dP 13 47 (.mv 1) 1, dP 14 48 (.mv 2) 1], some (mQ 46 158 [45] c158)⟩, ⟨[⟨some 37, .read (.ld1 36), none⟩], [], some (mQ 49 159 [47, 48] c159)⟩, ⟨[⟨some 37, .read (.ld1 36), none⟩], [], some (mY 50 (.append 1 8 46 49))⟩, ⟨[⟨some 37, .read (.ld1 36), none⟩], [dP 17 51 (.idxAddrSl 1 37 38) 3], some (mZ (.st 1 51 50))⟩, ⟨[], [], none⟩]) (.reg [mM 52 0, mU 53 (.nilCheck 52), mF 2 54 53, mL 55 54, mM 56 2, mU 57 (.idxAddrSl 1 55 56), mL 58 57, mQ 59 160 [58] c160]))) (.draw 0 [⟨[], [dP 0 60 (.mv 0) 1, dP 1 61 (.nilCheck 60) 1, dP 2 62 (.fieldAddr 2 61) 1, dR 3 63 (.ld1 62) 1, dP 4 64 (.mv 2) 1, dP 5 65 (.mv 1) 0, dP 6 66 (.mv 2) 0], some (mQ 67 159 [65, 66] c159)⟩, ⟨[⟨some 63, .read (.ld1 62), none⟩], [dP 8 68 (.idxAddrSl 1 63 64) 1], some (mZ (.st 1 68 67))⟩, ⟨[], [], none⟩]))) (.seq (.reg [mK 8 (.sl 0 none 0 0)]) (.seq (.seq (.reg [mK 69 0]) (.block 0 (.loop [8, 69] [0, 1, 2, 7] (.seq (.reg [mB .lss 70 69 (.c 256)]) (.seq (.cond 70 .skip (.exit 0)) (.join [0, 1, 2, 7, 8, 69] [] (.block 1 (.seq (.reg [mM 71 69, mM 9 71]) (.join [0, 1, 2, 7, 8, 9, 10, 11, 69] [] (.reg [mM 73 1, mM 74 2, mM 75 9, mU 76 (.conv .u8 75), mQ 77 161 [73, 74, 76] c161, mM 72 77, mU 78 (.extract 0 72), mU 79 (.extract 1 72), mM 10 78, mM 11 79]) (.seq (.seq (.reg [mM 80 11, mU 81 (.un .not 80)]) (.cond 81 (.exit 1) .skip)) (.join [0, 1, 2, 7, 8, 9, 10, 69] [] (.seq (.reg [mM 82 2, mB .gtr 83 82 (.c 0)]) (.cond 83 (.draw 0 [⟨[], [dP 0 84 (.mv 0) 0, dP 1 85 (.nilCheck 84) 0, dP 2 86 (.fieldAddr 1 85) 0, dR 3 87 (.ld1 86) 0, dP 4 88 (.mv 10) 0, dP 5 89 (.mv 0) 0, dP 6 90 (.nilCheck 89) 0, dP 7 91 (.fieldAddr 0 90) 0, dR 8 92 (.ld1 91) 0, dP 9 93 (.mv 7) 0, dP 10 94 (.mv 9) 0, dP 11 95 (.idxAddrSl 256 92 93) 0, dP 12 96 (.idxAddrArr 256 1 95 94) 0, dR 13 97 (.ld1 96) 0, dP 14 98 (.conv .i64 97) 0, dP 15 99 (.idxAddrSl 1 87 88) 0], some (mZ (.st 1 99 98))⟩, ⟨[], [], none⟩]) .skip)) (.seq (.reg [mM 100 0, mU 101 (.nilCheck 100), mF 0 102 101, mL 103 102, mM 104 2, mM 105 9, mM 106 10, mU 107 (.conv .u16 106), mU 108 (.idxAddrSl 256 103 104), mU 109 (.idxAddrArr 256 1 108 105), mZ (.st 1 109 107)]) (.reg [mM 110 8, mM 111 10, mN 112 (.bslice 1 1 [0] [(0, (1, 111))]), mY 113 (.append 1 8 110 112), mM 8 113]))))))) (.reg [mB .add 114 69 (.c 1), mM 69 114]))))))) (.seq (.reg [mM 115 8, mM 6 115]) .ret)))))
def r97 : List ARes := [.t 6]
theorem k97 (c158 : T 158) (c159 : T 159) (c160 : T 160) (c161 : T 161) : compFn Tryz.prog 97 = some ⟨116, (s97 c158 c159 c160 c161).er, r97⟩ := by kernel_rfl
abbrev q97 (O : Ops Tryz.prog) (c158 : T 158) (c159 : T 159) (c160 : T 160) (c161 : T 161) := curF 3 (sfn O (s97 c158 c159 c160 c161) r97)
def g97 : { g // g = q97 } := by
  have h : q97 = q97 := rfl
  conv at h => rhs; reduce
  exact ⟨_, h.symm⟩
def C97 : T 97 := mkRun 3 (k97 C158 C159 C160 C161) (by decide) (g97.1 (theOps Tryz.prog) C158 C159 C160 C161) (by rw [g97.2])
def s46 (c94 : T 94) (c95 : T 95) (c96 : T 96) (c97 : T 97) : S := .seq (.reg [mK 4 (.p none), mK 5 0]) (.seq (.reg [mQ 15 94 [] c94, mM 6 15]) (.join [0, 1, 6] [] (.seq (.reg [mM 16 0, mU 17 (.lenSl 16), mK 18 0]) (.block 0 (.loop [18] [0, 1, 6, 16, 17] (.seq (.reg [mB .lss 19 18 17]) (.seq (.cond 19 .skip (.exit 0)) (.seq (.block 1 (.seq (.reg [mU 20 (.idxAddrSl 1 16 18), mL 21 20, mM 8 21]) (.seq (.reg [mM 22 8, mB .eql 23 22 (.c (.s [])), mM 24 23, (mM 25 8).g 24 false, (mU 26 (.lenS 25)).g 24 false, (mB .gtr 27 26 (.c 16)).g 24 false, mU 28 (.pick 24 (.c (.b true)) 27)]) (.cond 28 (.seq (.reg [mK 4 (.p none), mK 5 1]) .ret) .skip)))) (.reg [mB .add 29 18 (.c 1), mM 18 29]))))))) (.join [1, 6] [] (.seq (.reg [mM 30 0, mU 31 (.lenSl 30), mK 32 0]) (.block 2 (.loop [32] [1, 6, 30, 31] (.seq (.reg [mB .lss 33 32 31]) (.seq (.cond 33 .skip (.exit 2)) (.seq (.block 3 (.seq (.reg [mU 34 (.idxAddrSl 1 30 32), mL 35 34, mM 10 35]) (.seq (.reg [mM 36 6, mM 37 10, mQ 38 95 [36, 37] c95]) (.seq (.reg [mM 39 6, mQ 40 96 [39] c96, mM 41 1, mU 42 (.mxmn false [41, .c 4096]), mB .gtr 43 40 42]) (.cond 43 (.seq (.reg [mK 4 (.p none), mK 5 9]) .ret) .skip))))) (.reg [mB .add 44 32 (.c 1), mM 32 44]))))))) (.seq (.reg [mM 45 6, mQ 46 96 [45] c96, mM 11 46]) (.seq (.seq (.reg [mM 47 11, mM 48 1, mB .gtr 49 47 48]) (.cond 49 (.seq (.reg [mK 4 (.p none), mK 5 9]) .ret) .skip)) (.join [6, 12] [] (.draw 9 [⟨[], [dP 0 50 (.mv 11) 0, ⟨1, ⟨some 51, .alloc (.mkslice 256 512 [.i .u16 0, .i .u16 0, .i .u16 0, .i .u16 0, .i .u16 0, .i .u16 0, .i .u16 0, .i .u16 0, .i .u16 0, .i .u16 0, .i .u16 0, .i .u16 0, .i .u16 0, .i .u16 0, .i .u16 0, .i .u16 0, .i .u16 0, .i .u16 0, .i .u16 0, .i .u16 0, .i .u16 0, .i .u16 0, .i .u16 0, .i .u16 0, .i .u16 0, .i .u16 0, .i .u16 0, .i .u16 0, .i .u16 0, .i .u16 0, .i .u16 0, .i .u16 0, .i .u16 0, .i .u16 0, .i .u16 0, .i .u16 0, .i .u16 0, .i .u16 0, .i .u16 0, .i .u16 0, .i .u16 0, .i .u16 0, .i .u16 0, .i .u16 0, .i .u16 0, .i .u16 0, .i .u16 0, .i .u16 0, .i .u16 0, .i .u16 0, .i .u16 0, .i .u16 0, .i .u16 0, .i .u16 0, .i .u16 0, .i .u16 0, .i .u16 0, .i .u16 0, .i .u16 0, .i .u16 0, .i .u16 0, .i .u16 0, .i .u16 0, .i .u16 0, .i .u16 0, .i .u16 0, .i .u16 0, .i .u16 0, .i .u16 0, .i .u16 0, .i .u16 0, .i .u16 0, .i .u16 0, .i .u16 0, .i .u16 0, .i .u16 0, .i .u16 0, .i .u16 0, .i .u16 0, .i .u16 0, .i .u16 0, .i .u16 0, .i .u16 0, .i .u16 0, .i .u16 0, .i .u16 0, .i .u16 0, .i .u16 0, .i .u16 0, .i .u16 0, .i .u16 0, .i .u16 0, .i .u16 0, .i .u16 0, .i .u16 0, .i .u16 0, .i .u16 0, .i .u16 0, .i .u16 0, .i .u16 0, .i .u16 0, .i .u16 0, .i .u16 0, .i .u16 0, .i .u16 0, .i .u16 0, .i .u16 0, .i .u16 0, .i .u16 0, .i .u16 0, .i .u16 0, .i .u16 0, .i .u16 0, .i .u16 0, .i .u16 0, .i .u16 0, .i .u16 0, .i .u16 0, .i .u16 0, .i .u16 0, .i .u16 0, .i .u16 0, .i .u16 0, .i .u16 0, .i .u16 0, .i .u16 0, .i .u16 0, .i .u16 0, .i .u16 0, .i .u16 0, .i .u16 0, .i .u16 0, .i .u16 0, .i .u16 0, .i .u16 0, .i .u16 0, .i .u16 0, .i .u16 0, .i .u16 0, .i .u16 0, .i .u16 0, .i .u16 0, .i .u16 0, .i .u16 0, .i .u16 0, .i .u16 0, .i .u16 0, .i .u16 0, .i .u16 0, .i .u16 0, .i .u16 0, .i .u16 0, .i .u16 0, .i .u16 0, .i .u16 0, .i .u16 0, .i .u16 0, .i .u16 0, .i .u16 0, .i .u16 0, .i .u16 0, .i .u16 0, .i .u16 0, .i .u16 0, .i .u16 0, .i .u16 0, .i .u16 0, .i .u16 0, .i .u16 0, .i .u16 0, .i .u16 0, .i .u16 0, .i .u16 0, .i .u16 0, .i .u16 0, .i .u16 0, .i .u16 0, .i .u16 0, .i .u16 0, .i .u16 0, .i .u16 0, .i .u16 0, .i .u16 0, .i .u16 0, .i .u16 0, .i .u16 0, .i .u16 0, .i .u16 0, .i .u16 0, .i .u16 0, .i .u16 0, .i .u16 0, .i .u16 0, .i .u16 0, .i .u16 0, .i .u16 0, .i .u16 0, .i .u16 0, .i .u16 0, .i .u16 0, .i .u16 0, .i .u16 0, .i .u16 0, .i .u16 0, .i .u16 0, .i .u16 0, .i .u16 0, .i .u16 0, .i .u16 0, .i .u16 0, .i .u16 0, .i .u16 0, .i .u16 0, .i .u16 0, .i .u16 0, .i .u16 0, .i .u16 0, .i .u16 0, .i .u16 0, .i .u16 0, .i .u16 0, .i .u16 0, .i .u16 0, .i .u16 0, .i .u16 0, .i .u16 0, .i .u16 0, .i .u16 0, .i .u16 0, .i .u16 0, .i .u16 0, .i .u16 0, .i .u16 0, .i .u16 0, .i .u16 0, .i .u16 0, .i .u16 0, .i .u16 0, .i .u16 0, .i .u16 0, .i .u16 0, .i .u16 0, .i .u16 0, .i .u16 0, .i .u16 0, .i .u16 0, .i .u16 0, .i .u16 0, .i .u16 0, .i .u16 0, .i .u16 0, .i .u16 0, .i .u16 0, .i .u16 0, .i .u16 0, .i .u16 0] 50 50), none⟩, 0⟩, dP 2 52 (.mv 11) 0, ⟨3, ⟨some 53, .alloc (.mkslice 1 8 [0] 52 52), none⟩, 0⟩, dP 4 54 (.mv 11) 0, ⟨5, ⟨some 55, .alloc (.mkslice 1 24 [.sl 0 none 0 0] 54 54), none⟩, 0⟩, dP 6 56 (.build [.sl 0 none 0 0, .sl 0 none 0 0, .sl 0 none 0 0] [(0, (1, 51)), (1, (1, 53)), (2, (1, 55))]) 0, ⟨7, ⟨some 57, .alloc (.box 56), none⟩, 0⟩, dP 8 12 (.mv 57) 0], none⟩]) (.seq (.seq (.reg [mN 58 (.bslice 1 1 [0] [(0, (1, .c 0))]), mM 13 58]) (.block 4 (.loop [13] [6, 12] (.join [6, 12, 13] [] (.seq (.reg [mM 59 13, mU 60 (.lenSl 59), mB .gtr 61 60 (.c 0)]) (.cond 61 .skip (.exit 4))) (.block 5 (.seq (.reg [mM 62 13, mU 63 (.idxAddrSl 1 62 (.c 0)), mL 64 63, mM 14 64]) (.draw 0 [⟨[], [dP 0 65 (.mv 13) 1, dP 1 66 (.slSl 1 65 (some (.c 1)) none none) 1, dP 2 67 (.mv 12) 0, dP 3 68 (.mv 6) 0, dP 4 69 (.mv 14) 0], some (mQ 70 97 [67, 68, 69] c97)⟩, ⟨[], [], some (mY 71 (.append 1 8 66 70))⟩, ⟨[], [dP 7 13 (.mv 71) 2], none⟩]))))))) (.seq (.reg [mM 72 12, mM 4 72, mK 5 0]) .ret))))))))
def r46 : List ARes := [.t 4, .t 5]
theorem k46 (c94 : T 94) (c95 : T 95) (c96 : T 96) (c97 : T 97) : compFn Tryz.prog 46 = some ⟨73, (s46 c94 c95 c96 c97).er, r46⟩ := by kernel_rfl
abbrev q46 (O : Ops Tryz.prog) (c94 : T 94) (c95 : T 95) (c96 : T 96) (c97 : T 97) := curF 2 (sfn O (s46 c94 c95 c96 c97) r46)
def g46 : { g // g = q46 } := by
  have h : q46 = q46 := rfl
  conv at h => rhs; reduce
  exact ⟨_, h.symm⟩
def C46 : T 46 := mkRun 2 (k46 C94 C95 C96 C97) (by decide) (g46.1 (theOps Tryz.prog) C94 C95 C96 C97) (by rw [g46.2])
def s47 : S := .seq (.reg [mK 2 0]) (.seq (.reg [mM 3 0, mU 4 (.nilCheck 3), mF 0 5 4, mL 6 5, mU 7 (.lenSl 6), mM 2 7]) .ret)
def r47 : List ARes := [.t 2]
theorem k47 : compFn Tryz.prog 47 = some ⟨8, (s47).er, r47⟩ := by kernel_rfl
abbrev q47 (O : Ops Tryz.prog) := curF 1 (sfn O (s47) r47)
def g47 : { g // g = q47 } := by
  have h : q47 = q47 := rfl
  conv at h => rhs; reduce
  exact ⟨_, h.symm⟩
def C47 : T 47 := mkRun 1 (k47) (by decide) (g47.1 (theOps Tryz.prog)) (by rw [g47.2])
def s19 (c44 : T 44) (c45 : T 45) (c46 : T 46) (c47 : T 47) : S := .seq (.reg [mN 4 (.newz [.sl 0 none 0 0, .sl 0 none 0 0, 0, 0])]) (.join [0, 4, 5, 6, 7] [] (.reg [mM 15 1, mQ 16 44 [15] c44, mM 14 16, mU 17 (.extract 0 14), mU 18 (.extract 1 14), mU 19 (.extract 2 14), mM 5 17, mM 6 18, mM 7 19]) (.join [0, 4, 5] [] (.seq (.reg [mM 20 7, mB .neq 21 20 (.c 0)]) (.cond 21 (.seq (.reg [mM 22 0, mU 23 (.nilCheck 22), mF 15 24 23, mF 13 25 24, mL 26 25, mB .add 27 26 (.c 1), mU 28 (.nilCheck 22), mF 15 29 28, mF 13 30 29, mZ (.st 1 30 27)]) (.seq (.reg [mM 31 7, mM 32 6, mU 33 (.build [.sl 0 none 0 0, .sl 0 none 0 0, 0, 0] [(2, (1, 31)), (3, (1, 32))]), mZ (.st 4 4 33)]) .ret)) .skip)) (.seq (.reg [mK 8 (.sl 0 none 0 0)]) (.join [0, 4, 5, 8] [] (.seq (.reg [mM 34 5, mU 35 (.lenSl 34), mK 36 0]) (.block 0 (.loop [8, 36] [0, 4, 5, 34, 35] (.seq (.reg [mB .lss 37 36 35]) (.seq (.cond 37 .skip (.exit 0)) (.seq (.block 1 (.join [0, 4, 5, 8, 10, 34, 35, 36] [] (.reg [mU 38 (.idxAddrSl 15 34 36), mR 39 (.ldN 15 38), mN 10 (.newz [0, 0, .b false, .sl 0 none 0 0, .b false, .sl 0 none 0 0, .b false, .sl 0 none 0 0, .b false, .sl 0 none 0 0, .b false, 0, .sl 0 none 0 0, 0, 0]), mZ (.st 15 10 39)]) (.join [0, 4, 5, 8, 34, 35, 36, 41, 42, 43] [] (.reg [mF 12 40 10, mL 41 40, mU 42 (.lenSl 41), mK 43 0]) (.block 2 (.loop [8, 43] [0, 4, 5, 34, 35, 36, 41, 42] (.seq (.reg [mB .lss 44 43 42]) (.seq (.cond 44 .skip (.exit 2)) (.seq (.block 3 (.seq (.reg [mU 45 (.idxAddrSl 8 41 43), mR 46 (.ldN 8 45), mN 12 (.newz [.s [], .b false, .b false, 0, 0, .b false, 0, 0]), mZ (.st 8 12 46)]) (.reg [mM 47 8, mF 0 48 12, mL 49 48, mQ 50 45 [49] c45, mN 51 (.bslice 1 1 [.s []] [(0, (1, 50))]), mY 52 (.append 1 16 47 51), mM 8 52]))) (.reg [mB .add 53 43 (.c 1), mM 43 53]))))))))) (.reg [mB .add 54 36 (.c 1), mM 36 54]))))))) (.join [0, 4, 5, 7, 13] [] (.reg [mM 56 8, mM 57 0, mU 58 (.nilCheck 57), mF 0 59 58, mF 5 60 59, mL 61 60, mQ 62 46 [56, 61] c46, mM 55 62, mU 63 (.extract 0 55), mU 64 (.extract 1 55), mM 13 63, mM 7 64]) (.seq (.seq (.reg [mM 65 7, mB .neq 66 65 (.c 0)]) (.cond 66 (.seq (.reg [mM 67 0, mU 68 (.nilCheck 67), mF 15 69 68, mF 13 70 69, mL 71 70, mB .add 72 71 (.c 1), mU 73 (.nilCheck 67), mF 15 74 73, mF 13 75 74, mZ (.st 1 75 72)]) (.seq (.reg [mM 76 7, mU 77 (.build [.sl 0 none 0 0, .sl 0 none 0 0, 0, 0] [(2, (1, 76))]), mZ (.st 4 4 77)]) .ret)) .skip)) (.seq (.reg [mM 78 0, mM 79 0, mM 80 5, mM 81 13, mQ 82 47 [81] c47, mU 83 (.nilCheck 78), mF 9 84 83, mZ (.st 1 84 80), mU 85 (.nilCheck 79), mF 10 86 85, mZ (.st 1 86 82)]) (.seq (.reg [mU 87 (.build [.sl 0 none 0 0, .sl 0 none 0 0, 0, 0] []), mZ (.st 4 4 87)]) .ret))))))))
def r19 : List ARes := [.c true 4 4]
theorem k19 (c44 : T 44) (c45 : T 45) (c46 : T 46) (c47 : T 47) : compFn Tryz.prog 19 = some ⟨88, (s19 c44 c45 c46 c47).er, r19⟩ := by kernel_rfl
abbrev q19 (O : Ops Tryz.prog) (c44 : T 44) (c45 : T 45) (c46 : T 46) (c47 : T 47) := curF 2 (sfn O (s19 c44 c45 c46 c47) r19)
def g19 : { g // g = q19 } := by
  have h : q19 = q19 := rfl
  conv at h => rhs; reduce
  exact ⟨_, h.symm⟩
def C19 : T 19 := mkRun 2 (k19 C44 C45 C46 C47) (by decide) (g19.1 (theOps Tryz.prog) C44 C45 C46 C47) (by rw [g19.2])
def s370 : S := .seq (.reg [mK 2 (.s [])]) (.seq (.seq (.reg [mM 3 0, mB .lss 4 3 (.c 10)]) (.cond 4 (.seq (.reg [mM 5 0, mM 6 0, mB .add 7 6 (.c 1), mU 8 (.slStr (.c (.s [48, 49, 50, 51, 52, 53, 54, 55, 56, 57, 97, 98, 99, 100, 101, 102, 103, 104, 105, 106, 107, 108, 109, 110, 111, 112, 113, 114, 115, 116, 117, 118, 119, 120, 121, 122])) (some 5) (some 7)), mM 2 8]) .ret) .skip)) (.seq (.reg [mM 9 0, mB .mul 10 9 (.c 2), mM 11 0, mB .mul 12 11 (.c 2), mB .add 13 12 (.c 2), mU 14 (.slStr (.c (.s [48, 48, 48, 49, 48, 50, 48, 51, 48, 52, 48, 53, 48, 54, 48, 55, 48, 56, 48, 57, 49, 48, 49, 49, 49, 50, 49, 51, 49, 52, 49, 53, 49, 54, 49, 55, 49, 56, 49, 57, 50, 48, 50, 49, 50, 50, 50, 51, 50, 52, 50, 53, 50, 54, 50, 55, 50, 56, 50, 57, 51, 48, 51, 49, 51, 50, 51, 51, 51, 52, 51, 53, 51, 54, 51, 55, 51, 56, 51, 57, 52, 48, 52, 49, 52, 50, 52, 51, 52, 52, 52, 53, 52, 54, 52, 55, 52, 56, 52, 57, 53, 48, 53, 49, 53, 50, 53, 51, 53, 52, 53, 53, 53, 54, 53, 55, 53, 56, 53, 57, 54, 48, 54, 49, 54, 50, 54, 51, 54, 52, 54, 53, 54, 54, 54, 55, 54, 56, 54, 57, 55, 48, 55, 49, 55, 50, 55, 51, 55, 52, 55, 53, 55, 54, 55, 55, 55, 56, 55, 57, 56, 48, 56, 49, 56, 50, 56, 51, 56, 52, 56, 53, 56, 54, 56, 55, 56, 56, 56, 57, 57, 48, 57, 49, 57, 50, 57, 51, 57, 52, 57, 53, 57, 54, 57, 55, 57, 56, 57, 57])) (some 10) (some 13)), mM 2 14]) .ret))
def r370 : List ARes := [.t 2]
theorem k370 : compFn Tryz.prog 370 = some ⟨15, (s370).er, r370⟩ := by kernel_rfl
abbrev q370 (O : Ops Tryz.prog) := curF 1 (sfn O (s370) r370)
def g370 : { g // g = q370 } := by
  have h : q370 = q370 := rfl
  conv at h => rhs; reduce
  exact ⟨_, h.symm⟩
def C370 : T 370 := mkRun 1 (k370) (by decide) (g370.1 (theOps Tryz.prog)) (by rw [g370.2])
def s372 : S := .seq (.reg [mM 17 0, mU 18 (.lenSl 17), mM 4 18]) (.join [0, 1, 4] [] (.block 0 (.loop [1, 4] [0] (.seq (.seq (.reg [mM 19 4, mB .geq 20 19 (.c 8)]) (.cond 20 .skip (.exit 0))) (.block 1 (.join [0, 1, 4, 5] [] (.reg [mM 21 1, mB .rem 22 21 (.c (.i .u64 100000000)), mU 23 (.conv .u32 22), mM 5 23]) (.seq (.reg [mM 24 1, mB .quo 25 24 (.c (.i .u64 100000000)), mM 1 25]) (.join [0, 1, 4, 6, 7] [] (.reg [mM 26 5, mB .quo 27 26 (.c (.i .u32 10000)), mM 28 5, mB .rem 29 28 (.c (.i .u32 10000)), mM 6 27, mM 7 29]) (.join [0, 1, 4, 6, 8, 9] [] (.reg [mM 30 7, mB .quo 31 30 (.c (.i .u32 100)), mB .mul 32 31 (.c (.i .u32 2)), mM 33 7, mB .rem 34 33 (.c (.i .u32 100)), mB .mul 35 34 (.c (.i .u32 2)), mM 8 32, mM 9 35]) (.join [0, 1, 4, 8, 9, 10, 11] [] (.reg [mM 36 6, mB .quo 37 36 (.c (.i .u32 100)), mB .mul 38 37 (.c (.i .u32 2)), mM 39 6, mB .rem 40 39 (.c (.i .u32 100)), mB .mul 41 40 (.c (.i .u32 2)), mM 10 38, mM 11 41]) (.join [0, 1, 4, 8, 10, 11] [] (.draw 0 [⟨[], [dP 0 42 (.mv 0) 0, dP 1 43 (.mv 4) 0, dP 2 44 (.bin .sub 43 (.c 1)) 0, dP 3 45 (.mv 0) 1, dP 4 46 (.mv 4) 1, dP 5 47 (.bin .sub 46 (.c 2)) 1, dP 6 48 (.mv 9) 0, dP 7 49 (.bin .add 48 (.c (.i .u32 1))) 0, dP 8 50 (.idxStr (.c (.s [48, 48, 48, 49, 48, 50, 48, 51, 48, 52, 48, 53, 48, 54, 48, 55, 48, 56, 48, 57, 49, 48, 49, 49, 49, 50, 49, 51, 49, 52, 49, 53, 49, 54, 49, 55, 49, 56, 49, 57, 50, 48, 50, 49, 50, 50, 50, 51, 50, 52, 50, 53, 50, 54, 50, 55, 50, 56, 50, 57, 51, 48, 51, 49, 51, 50, 51, 51, 51, 52, 51, 53, 51, 54, 51, 55, 51, 56, 51, 57, 52, 48, 52, 49, 52, 50, 52, 51, 52, 52, 52, 53, 52, 54, 52, 55, 52, 56, 52, 57, 53, 48, 53, 49, 53, 50, 53, 51, 53, 52, 53, 53, 53, 54, 53, 55, 53, 56, 53, 57, 54, 48, 54, 49, 54, 50, 54, 51, 54, 52, 54, 53, 54, 54, 54, 55, 54, 56, 54, 57, 55, 48, 55, 49, 55, 50, 55, 51, 55, 52, 55, 53, 55, 54, 55, 55, 55, 56, 55, 57, 56, 48, 56, 49, 56, 50, 56, 51, 56, 52, 56, 53, 56, 54, 56, 55, 56, 56, 56, 57, 57, 48, 57, 49, 57, 50, 57, 51, 57, 52, 57, 53, 57, 54, 57, 55, 57, 56, 57, 57])) 49) 0, dP 9 51 (.mv 9) 1, dP 10 52 (.idxStr (.c (.s [48, 48, 48, 49, 48, 50, 48, 51, 48, 52, 48, 53, 48, 54, 48, 55, 48, 56, 48, 57, 49, 48, 49, 49, 49, 50, 49, 51, 49, 52, 49, 53, 49, 54, 49, 55, 49, 56, 49, 57, 50, 48, 50, 49, 50, 50, 50, 51, 50, 52, 50, 53, 50, 54, 50, 55, 50, 56, 50, 57, 51, 48, 51, 49, 51, 50, 51, 51, 51, 52, 51, 53, 51, 54, 51, 55, 51, 56, 51, 57, 52, 48, 52, 49, 52, 50, 52, 51, 52, 52, 52, 53, 52, 54, 52, 55, 52, 56, 52, 57, 53, 48, 53, 49, 53, 50, 53, 51, 53, 52, 53, 53, 53, 54, 53, 55, 53, 56, 53, 57, 54, 48, 54, 49, 54, 50, 54, 51, 54, 52, 54, 53, 54, 54, 54, 55, 54, 56, 54, 57, 55, 48, 55, 49, 55, 50, 55, 51, 55, 52, 55, 53, 55, 54, 55, 55, 55, 56, 55, 57, 56, 48, 56, 49, 56, 50, 56, 51, 56, 52, 56, 53, 56, 54, 56, 55, 56, 56, 56, 57, 57, 48, 57, 49, 57, 50, 57, 51, 57, 52, 57, 53, 57, 54, 57, 55, 57, 56, 57, 57])) 51) 1, dP 11 53 (.idxAddrSl 1 42 44) 0], some (mZ (.st 1 53 50))⟩, ⟨[], [dP 13 54 (.idxAddrSl 1 45 47) 1], some (mZ (.st 1 54 52))⟩, ⟨[], [], none⟩]) (.join [0, 1, 4, 10, 11] [] (.draw 0 [⟨[], [dP 0 55 (.mv 0) 0, dP 1 56 (.mv 4) 0, dP 2 57 (.bin .sub 56 (.c 3)) 0, dP 3 58 (.mv 0) 1, dP 4 59 (.mv 4) 1, dP 5 60 (.bin .sub 59 (.c 4)) 1, dP 6 61 (.mv 8) 0, dP 7 62 (.bin .add 61 (.c (.i .u32 1))) 0, dP 8 63 (.idxStr (.c (.s [48, 48, 48, 49, 48, 50, 48, 51, 48, 52, 48, 53, 48, 54, 48, 55, 48, 56, 48, 57, 49, 48, 49, 49, 49, 50, 49, 51, 49, 52, 49, 53, 49, 54, 49, 55, 49, 56, 49, 57, 50, 48, 50, 49, 50, 50, 50, 51, 50, 52, 50, 53, 50, 54, 50, 55, 50, 56, 50, 57, 51, 48, 51, 49, 51, 50, 51, 51, 51, 52, 51, 53, 51, 54, 51, 55, 51, 56, 51, 57, 52, 48, 52, 49, 52, 50, 52, 51, 52, 52, 52, 53, 52, 54, 52, 55, 52, 56, 52, 57, 53, 48, 53, 49, 53, 50, 53, 51, 53, 52, 53, 53, 53, 54, 53, 55, 53, 56, 53, 57, 54, 48, 54, 49, 54, 50, 54, 51, 54, 52, 54, 53, 54, 54, 54, 55, 54, 56, 54, 57, 55, 48, 55, 49, 55, 50, 55, 51, 55, 52, 55, 53, 55, 54, 55, 55, 55, 56, 55, 57, 56, 48, 56, 49, 56, 50, 56, 51, 56, 52, 56, 53, 56, 54, 56, 55, 56, 56, 56, 57, 57, 48, 57, 49, 57, 50, 57, 51, 57, 52, 57, 53, 57, 54, 57, 55, 57, 56, 57, 57])) 62) 0, dP 9 64 (.mv 8) 1, dP 10 65 (.idxStr (.c (.s [48, 48, 48, 49, 48, 50, 48, 51, 48, 52, 48, 53, 48, 54, 48, 55, 48, 56, 48, 57, 49, 48, 49, 49, 49, 50, 49, 51, 49, 52, 49, 53, 49, 54, 49, 55, 49, 56, 49, 57, 50, 48, 50, 49, 50, 50, 50, 51, 50, 52, 50, 53, 50, 54, 50, 55, 50, 56, 50, 57, 51, 48, 51, 49, 51, 50, 51, 51, 51, 52, 51, 53, 51, 54, 51, 55, 51, 56, 51, 57, 52, 48, 52, 49, 52, 50, 52, 51, 52, 52, 52, 53, 52, 54, 52, 55, 52, 56, 52, 57, 53, 48, 53, 49, 53, 50, 53, 51, 53, 52, 53, 53, 53, 54, 53, 55, 53, 56, 53, 57, 54, 48, 54, 49, 54, 50, 54, 51, 54, 52, 54, 53, 54, 54, 54, 55, 54, 56, 54, 57, 55, 48, 55, 49, 55, 50, 55, 51, 55, 52, 55, 53, 55, 54, 55, 55, 55, 56, 55, 57, 56, 48, 56, 49, 56, 50, 56, 51, 56, 52, 56, 53, 56, 54, 56, 55, 56, 56, 56, 57, 57, 48, 57, 49, 57, 50, 57, 51, 57, 52, 57, 53, 57, 54, 57, 55, 57, 56, 57, 57])) 64) 1, dP 11 66 (.idxAddrSl 1 55 57) 0], some (mZ (.st 1 66 63))⟩, ⟨[], [dP 13 67 (.idxAddrSl 1 58 60) 1], some (mZ (.st 1 67 65))⟩, ⟨[], [], none⟩]) (.join [0, 1, 4, 10] [] (.draw 0 [⟨[], [dP 0 68 (.mv 0) 0, dP 1 69 (.mv 4) 0, dP 2 70 (.bin .sub 69 (.c 5)) 0, dP 3 71 (.mv 0) 1, dP 4 72 (.mv 4) 1, dP 5 73 (.bin .sub 72 (.c 6)) 1, dP 6 74 (.mv 11) 0, dP 7 75 (.bin .add 74 (.c (.i .u32 1))) 0, dP 8 76 (.idxStr (.c (.s [48, 48, 48, 49, 48, 50, 48, 51, 48, 52, 48, 53, 48, 54, 48, 55, 48, 56, 48, 57, 49, 48, 49, 49, 49, 50, 49, 51, 49, 52, 49, 53, 49, 54, 49, 55, 49, 56, 49, 57, 50, 48, 50, 49, 50, 50, 50, 51, 50, 52, 50, 53, 50, 54, 50, 55, 50, 56, 50, 57, 51, 48, 51, 49, 51, 50, 51, 51, 51, 52, 51, 53, 51, 54, 51, 55, 51, 56, 51, 57, 52, 48, 52, 49, 52, 50, 52, 51, 52, 52, 52, 53, 52, 54, 52, 55, 52, 56, 52, 57, 53, 48, 53, 49, 53, 50, 53, 51, 53, 52, 53, 53, 53, 54, 53, 55, 53, 56, 53, 57, 54, 48, 54, 49, 54, 50, 54, 51, 54, 52, 54, 53, 54, 54, 54, 55, 54, 56, 54, 57, 55, 48, 55, 49, 55, 50, 55, 51, 55, 52, 55, 53, 55, 54, 55, 55, 55, 56, 55, 57, 56, 48, 56, 49, 56, 50, 56, 51, 56, 52, 56, 53, 56, 54, 56, 55, 56, 56, 56, 57, 57, 48, 57, 49, 57, 50, 57, 51, 57, 52, 57, 53, 57, 54, 57, 55, 57, 56, 57, 57])) 75) 0, dP 9 77 (.mv 11) 1, dP 10 78 (.idxStr (.c (.s [48, 48, 48, 49, 48, 50, 48, 51, 48, 52, 48, 53, 48, 54, 48, 55, 48, 56, 48, 57, 49, 48, 49, 49, 49, 50, 49, 51, 49, 52, 49, 53, 49, 54, 49, 55, 49, 56, 49, 57, 50, 48, 50, 49, 50, 50, 50, 51, 50, 52, 50, 53, 50, 54, 50, 55, 50, 56, 50, 57, 51, 48, 51, 49, 51, 50, 51, 51, 51, 52, 51, 53, 51, 54, 51, 55, 51, 56, 51, 57, 52, 48, 52, 49, 52, 50, 52, 51, 52, 52, 52, 53, 52, 54, 52, 55, 52, 56, 52, 57, 53, 48, 53, 49, 53, 50, 53, 51, 53, 52, 53, 53, 53, 54, 53, 55, 53, 56, 53, 57, 54, 48, 54, 49, 54, 50, 54, 51, 54, 52, 54, 53, 54, 54, 54, 55, 54, 56, 54, 57, 55, 48, 55, 49, 55, 50, 55, 51, 55, 52, 55, 53, 55, 54, 55, 55, 55, 56, 55, 57, 56, 48, 56, 49, 56, 50, 56, 51, 56, 52, 56, 53, 56, 54, 56, 55, 56, 56, 56, 57, 57, 48, 57, 49, 57, 50, 57, 51, 57, 52, 57, 53, 57, 54, 57, 55, 57, 56, 57, 57])) 77) 1, dP 11 79 (.idxAddrSl 1 68 70) 0], some (mZ (.st 1 79 76))⟩, ⟨[], [dP 13 80 (.idxAddrSl 1 71 73) 1], some (mZ (.st 1 80 78))⟩, ⟨[], [], none⟩]) (.seq (.draw 0 [⟨[], [dP 0 81 (.mv 0) 0, dP 1 82 (.mv 4) 0, dP 2 83 (.bin .sub 82 (.c 7)) 0, dP 3 84 (.mv 0) 1, dP 4 85 (.mv 4) 1, dP 5 86 (.bin .sub 85 (.c 8)) 1, dP 6 87 (.mv 10) 0, dP 7 88 (.bin .add 87 (.c (.i .u32 1))) 0, dP 8 89 (.idxStr (.c (.s [48, 48, 48, 49, 48, 50, 48, 51, 48, 52, 48, 53, 48, 54, 48, 55, 48, 56, 48, 57, 49, 48, 49, 49, 49, 50, 49, 51, 49, 52, 49, 53, 49, 54, 49, 55, 49, 56, 49, 57, 50, 48, 50, 49, 50, 50, 50, 51, 50, 52, 50, 53, 50, 54, 50, 55, 50, 56, 50, 57, 51, 48, 51, 49, 51, 50, 51, 51, 51, 52, 51, 53, 51, 54, 51, 55, 51, 56, 51, 57, 52, 48, 52, 49, 52, 50, 52, 51, 52, 52, 52, 53, 52, 54, 52, 55, 52, 56, 52, 57, 53, 48, 53, 49, 53, 50, 53, 51, 53, 52, 53, 53, 53, 54, 53, 55, 53, 56, 53, 57, 54, 48, 54, 49, 54, 50, 54, 51, 54, 52, 54, 53, 54, 54, 54, 55, 54, 56, 54, 57, 55, 48, 55, 49, 55, 50, 55, 51, 55, 52, 55, 53, 55, 54, 55, 55, 55, 56, 55, 57, 56, 48, 56, 49, 56, 50, 56, 51, 56, 52, 56, 53, 56, 54, 56, 55, 56, 56, 56, 57, 57, 48, 57, 49, 57, 50, 57, 51, 57, 52, 57, 53, 57, 54, 57, 55, 57, 56, 57, 57])) 88) 0, dP 9 90 (.mv 10) 1, dP 10 91 (.idxStr (.c (.s [48, 48, 48, 49, 48, 50, 48, 51, 48, 52, 48, 53, 48, 54, 48, 55, 48, 56, 48, 57, 49, 48, 49, 49, 49, 50, 49, 51, 49, 52, 49, 53, 49, 54, 49, 55, 49, 56, 49, 57, 50, 48, 50, 49, 50, 50, 50, 51, 50, 52, 50, 53, 50, 54, 50, 55, 50, 56, 50, 57, 51, 48, 51, 49, 51, 50, 51, 51, 51, 52, 51, 53, 51, 54, 51, 55, 51, 56, 51, 57, 52, 48, 52, 49, 52, 50, 52, 51, 52, 52, 52, 53, 52, 54, 52, 55, 52, 56, 52, 57, 53, 48, 53, 49, 53, 50, 53, 51, 53, 52, 53, 53, 53, 54, 53, 55, 53, 56, 53, 57, 54, 48, 54, 49, 54, 50, 54, 51, 54, 52, 54, 53, 54, 54, 54, 55, 54, 56, 54, 57, 55, 48, 55, 49, 55, 50, 55, 51, 55, 52, 55, 53, 55, 54, 55, 55, 55, 56, 55, 57, 56, 48, 56, 49, 56, 50, 56, 51, 56, 52, 56, 53, 56, 54, 56, 55, 56, 56, 56, 57, 57, 48, 57, 49, 57, 50, 57, 51, 57, 52, 57, 53, 57, 54, 57, 55, 57, 56, 57, 57])) 90) 1, dP 11 92 (.idxAddrSl 1 81 83) 0], some (mZ (.st 1 92 89))⟩, ⟨[], [dP 13 93 (.idxAddrSl 1 84 86) 1], some (mZ (.st 1 93 91))⟩, ⟨[], [], none⟩]) (.reg [mM 94 4, mB .sub 95 94 (.c 8), mM 4 95])))))))))))))) (.seq (.reg [mM 96 1, mU 97 (.conv .u32 96), mM 12 97]) (.join [0, 4, 12] [] (.seq (.reg [mM 98 4, mB .geq 99 98 (.c 4)]) (.cond 99 (.seq (.reg [mM 100 12, mB .rem 101 100 (.c (.i .u32 10000)), mM 13 101]) (.seq (.reg [mM 102 12, mB .quo 103 102 (.c (.i .u32 10000)), mM 12 103]) (.join [0, 4, 12, 14, 15] [] (.reg [mM 104 13, mB .quo 105 104 (.c (.i .u32 100)), mB .mul 106 105 (.c (.i .u32 2)), mM 107 13, mB .rem 108 107 (.c (.i .u32 100)), mB .mul 109 108 (.c (.i .u32 2)), mM 14 106, mM 15 109]) (.join [0, 4, 12, 14] [] (.draw 0 [⟨[], [dP 0 110 (.mv 0) 0, dP 1 111 (.mv 4) 0, dP 2 112 (.bin .sub 111 (.c 1)) 0, dP 3 113 (.mv 0) 1, dP 4 114 (.mv 4) 1, dP 5 115 (.bin .sub 114 (.c 2)) 1, dP 6 116 (.mv 15) 0, dP 7 117 (.bin .add 116 (.c (.i .u32 1))) 0, dP 8 118 (.idxStr (.c (.s [48, 48, 48, 49, 48, 50, 48, 51, 48, 52, 48, 53, 48, 54, 48, 55, 48, 56, 48, 57, 49, 48, 49, 49, 49, 50, 49, 51, 49, 52, 49, 53, 49, 54, 49, 55, 49, 56, 49, 57, 50, 48, 50, 49, 50, 50, 50, 51, 50, 52, 50, 53, 50, 54, 50, 55, 50, 56, 50, 57, 51, 48, 51, 49, 51, 50, 51, 51, 51, 52, 51, 53, 51, 54, 51, 55, 51, 56, 51, 57, 52, 48, 52, 49, 52, 50, 52, 51, 52, 52, 52, 53, 52, 54, 52, 55, 52, 56, 52, 57, 53, 48, 53, 49, 53, 50, 53, 51, 53, 52, 53, 53, 53, 54, 53, 55, 53, 56, 53, 57, 54, 48, 54, 49, 54, 50, 54, 51, 54, 52, 54, 53, 54, 54, 54, 55, 54, 56, 54, 57, 55, 48, 55, 49, 55, 50, 55, 51, 55, 52, 55, 53, 55, 54, 55, 55, 55, 56, 55, 57, 56, 48, 56, 49, 56, 50, 56, 51, 56, 52, 56, 53, 56, 54, 56, 55, 56, 56, 56, 57, 57, 48, 57, 49, 57, 50, 57, 51, 57, 52, 57, 53, 57, 54, 57, 55, 57, 56, 57, 57])) 117) 0, dP 9 119 (.mv 15) 1, dP 10 120 (.idxStr (.c (.s [48, 48, 48, 49, 48, 50, 48, 51, 48, 52, 48, 53, 48, 54, 48, 55, 48, 56, 48, 57, 49, 48, 49, 49, 49, 50, 49, 51, 49, 52, 49, 53, 49, 54, 49, 55, 49, 56, 49, 57, 50, 48, 50, 49, 50, 50, 50, 51, 50, 52, 50, 53, 50, 54, 50, 55, 50, 56, 50, 57, 51, 48, 51, 49, 51, 50, 51, 51, 51, 52, 51, 53, 51, 54, 51, 55, 51, 56, 51, 57, 52, 48, 52, 49, 52, 50, 52, 51, 52, 52, 52, 53, 52, 54, 52, 55, 52, 56, 52, 57, 53, 48, 53, 49, 53, 50, 53, 51, 53, 52, 53, 53, 53, 54, 53, 55, 53, 56, 53, 57, 54, 48, 54, 49, 54, 50, 54, 51, 54, 52, 54, 53, 54, 54, 54, 55, 54, 56, 54, 57, 55, 48, 55, 49, 55, 50, 55, 51, 55, 52, 55, 53, 55, 54, 55, 55, 55, 56, 55, 57, 56, 48, 56, 49, 56, 50, 56, 51, 56, 52, 56, 53, 56, 54, 56, 55, 56, 56, 56, 57, 57, 48, 57, 49, 57, 50, 57, 51, 57, 52, 57, 53, 57, 54, 57, 55, 57, 56, 57, 57])) 119) 1, dP 11 121 (.idxAddrSl 1 110 112) 0], some (mZ (.st 1 121 118))⟩, ⟨[], [dP 13 122 (.idxAddrSl 1 113 115) 1], some (mZ (.st 1 122 120))⟩, ⟨[], [], none⟩]) (.seq (.draw 0 [⟨[], [dP 0 123 (.mv 0) 0, dP 1 124 (.mv 4) 0, dP 2 125 (.bin .sub 124 (.c 3)) 0, dP 3 126 (.mv 0) 1, dP 4 127 (.mv 4) 1, dP 5 128 (.bin .sub 127 (.c 4)) 1, dP 6 129 (.mv 14) 0, dP 7 130 (.bin .add 129 (.c (.i .u32 1))) 0, dP 8 131 (.idxStr (.c (.s [48, 48, 48, 49, 48, 50, 48, 51, 48, 52, 48, 53, 48, 54, 48, 55, 48, 56, 48, 57, 49, 48, 49, 49, 49, 50, 49, 51, 49, 52, 49, 53, 49, 54, 49, 55, 49, 56, 49, 57, 50, 48, 50, 49, 50, 50, 50, 51, 50, 52, 50, 53, 50, 54, 50, 55, 50, 56, 50, 57, 51, 48, 51, 49, 51, 50, 51, 51, 51, 52, 51, 53, 51, 54, 51, 55, 51, 56, 51, 57, 52, 48, 52, 49, 52, 50, 52, 51, 52, 52, 52, 53, 52, 54, 52, 55, 52, 56, 52, 57, 53, 48, 53, 49, 53, 50, 53, 51, 53, 52, 53, 53, 53, 54, 53, 55, 53, 56, 53, 57, 54, 48, 54, 49, 54, 50, 54, 51, 54, 52, 54, 53, 54, 54, 54, 55, 54, 56, 54, 57, 55, 48, 55, 49, 55, 50, 55, 51, 55, 52, 55, 53, 55, 54, 55, 55, 55, 56, 55, 57, 56, 48, 56, 49, 56, 50, 56, 51, 56, 52, 56, 53, 56, 54, 56, 55, 56, 56, 56, 57, 57, 48, 57, 49, 57, 50, 57, 51, 57, 52, 57, 53, 57, 54, 57, 55, 57, 56, 57, 57])) 130) 0, dP 9 132 (.mv 14) 1, dP 10 133 (.idxStr (.c (.s [48, 48, 48, 49, 48, 50, 48, 51, 48, 52, 48, 53, 48, 54, 48, 55, 48, 56, 48, 57, 49, 48, 49, 49, 49, 50, 49, 51, 49, 52, 49, 53, 49, 54, 49, 55, 49, 56, 49, 57, 50, 48, 50, 49, 50, 50, 50, 51, 50, 52, 50, 53, 50, 54, 50, 55, 50, 56, 50, 57, 51, 48, 51, 49, 51, 50, 51, 51, 51, 52, 51, 53, 51, 54, 51, 55, 51, 56, 51, 57, 52, 48, 52, 49, 52, 50, 52, 51, 52, 52, 52, 53, 52, 54, 52, 55, 52, 56, 52, 57, 53, 48, 53, 49, 53, 50, 53, 51, 53, 52, 53, 53, 53, 54, 53, 55, 53, 56, 53, 57, 54, 48, 54, 49, 54, 50, 54, 51, 54, 52, 54, 53, 54, 54, 54, 55, 54, 56, 54, 57, 55, 48, 55, 49, 55, 50, 55, 51, 55, 52, 55, 53, 55, 54, 55, 55, 55, 56, 55, 57, 56, 48, 56, 49, 56, 50, 56, 51, 56, 52, 56, 53, 56, 54, 56, 55, 56, 56, 56, 57, 57, 48, 57, 49, 57, 50, 57, 51, 57, 52, 57, 53, 57, 54, 57, 55, 57, 56, 57, 57])) 132) 1, dP 11 134 (.idxAddrSl 1 123 125) 0], some (mZ (.st 1 134 131))⟩, ⟨[], [dP 13 135 (.idxAddrSl 1 126 128) 1], some (mZ (.st 1 135 133))⟩, ⟨[], [], none⟩]) (.reg [mM 136 4, mB .sub 137 136 (.c 4), mM 4 137])))))) .skip)) (.join [0, 4, 12] [] (.seq (.reg [mM 138 4, mB .geq 139 138 (.c 2)]) (.cond 139 (.join [0, 4, 12, 16] [] (.reg [mM 140 12, mB .rem 141 140 (.c (.i .u32 100)), mB .mul 142 141 (.c (.i .u32 2)), mM 16 142]) (.seq (.reg [mM 143 12, mB .quo 144 143 (.c (.i .u32 100)), mM 12 144]) (.seq (.draw 0 [⟨[], [dP 0 145 (.mv 0) 0, dP 1 146 (.mv 4) 0, dP 2 147 (.bin .sub 146 (.c 1)) 0, dP 3 148 (.mv 0) 1, dP 4 149 (.mv 4) 1, dP 5 150 (.bin .sub 149 (.c 2)) 1, dP 6 151 (.mv 16) 0, dP 7 152 (.bin .add 151 (.c (.i .u32 1))) 0, dP 8 153 (.idxStr (.c (.s [48, 48, 48, 49, 48, 50, 48, 51, 48, 52, 48, 53, 48, 54, 48, 55, 48, 56, 48, 57, 49, 48, 49, 49, 49, 50, 49, 51, 49, 52, 49, 53, 49, 54, 49, 55, 49, 56, 49, 57, 50, 48, 50, 49, 50, 50, 50, 51, 50, 52, 50, 53, 50, 54, 50, 55, 50, 56, 50, 57, 51, 48, 51, 49, 51, 50, 51, 51, 51, 52, 51, 53, 51, 54, 51, 55, 51, 56, 51, 57, 52, 48, 52, 49, 52, 50, 52, 51, 52, 52, 52, 53, 52, 54, 52, 55, 52, 56, 52, 57, 53, 48, 53, 49, 53, 50, 53, 51, 53, 52, 53, 53, 53, 54, 53, 55, 53, 56, 53, 57, 54, 48, 54, 49, 54, 50, 54, 51, 54, 52, 54, 53, 54, 54, 54, 55, 54, 56, 54, 57, 55, 48, 55, 49, 55, 50, 55, 51, 55, 52, 55, 53, 55, 54, 55, 55, 55, 56, 55, 57, 56, 48, 56, 49, 56, 50, 56, 51, 56, 52, 56, 53, 56, 54, 56, 55, 56, 56, 56, 57, 57, 48, 57, 49, 57, 50, 57, 51, 57, 52, 57, 53, 57, 54, 57, 55, 57, 56, 57, 57])) 152) 0, dP 9 154 (.mv 16) 1, dP 10 155 (.idxStr (.c (.s [48, 48, 48, 49, 48, 50, 48, 51, 48, 52, 48, 53, 48, 54, 48, 55, 48, 56, 48, 57, 49, 48, 49, 49, 49, 50, 49, 51, 49, 52, 49, 53, 49, 54, 49, 55, 49, 56, 49, 57, 50, 48, 50, 49, 50, 50, 50, 51, 50, 52, 50, 53, 50, 54, 50, 55, 50, 56, 50, 57, 51, 48, 51, 49, 51, 50, 51, 51, 51, 52, 51, 53, 51, 54, 51, 55, 51, 56, 51, 57, 52, 48, 52, 49, 52, 50, 52, 51, 52, 52, 52, 53, 52, 54, 52, 55, 52, 56, 52, 57, 53, 48, 53, 49, 53, 50, 53, 51, 53, 52, 53, 53, 53, 54, 53, 55, 53, 56, 53, 57, 54, 48, 54, 49, 54, 50, 54, 51, 54, 52, 54, 53, 54, 54, 54, 55, 54, 56, 54, 57, 55, 48, 55, 49, 55, 50, 55, 51, 55, 52, 55, 53, 55, 54, 55, 55, 55, 56, 55, 57, 56, 48, 56, 49, 56, 50, 56, 51, 56, 52, 56, 53, 56, 54, 56, 55, 56, 56, 56, 57, 57, 48, 57, 49, 57, 50, 57, 51, 57, 52, 57, 53, 57, 54, 57, 55, 57, 56, 57, 57])) 154) 1, dP 11 156 (.idxAddrSl 1 145 147) 0], some (mZ (.st 1 156 153))⟩, ⟨[], [dP 13 157 (.idxAddrSl 1 148 150) 1], some (mZ (.st 1 157 155))⟩, ⟨[], [], none⟩]) (.reg [mM 158 4, mB .sub 159 158 (.c 2), mM 4 159])))) .skip)) (.seq (.reg [mM 160 4, mB .gtr 161 160 (.c 0)]) (.cond 161 (.reg [mM 162 0, mM 163 12, mB .add 164 (.c (.i .u32 48)) 163, mU 165 (.conv .u8 164), mU 166 (.idxAddrSl 1 162 (.c 0)), mZ (.st 1 166 165)]) .skip))))))
def r372 : List ARes := []
theorem k372 : compFn Tryz.prog 372 = some ⟨167, (s372).er, r372⟩ := by kernel_rfl
abbrev q372 (O : Ops Tryz.prog) := curF 2 (sfn O (s372) r372)
def g372 : { g // g = q372 } := by
  have h : q372 = q372 := rfl
  conv at h => rhs; reduce
  exact ⟨_, h.symm⟩
def C372 : T 372 := mkRun 2 (k372) (by decide) (g372.1 (theOps Tryz.prog)) (by rw [g372.2])
def s388 : S := .seq (.reg [mK 2 (.b false)]) (.seq (.reg [mM 3 0, mM 4 0, mB .sub 5 4 (.c 1), mB .and 6 3 5, mB .eql 7 6 (.c 0), mM 2 7]) .ret)
def r388 : List ARes := [.t 2]
theorem k388 : compFn Tryz.prog 388 = some ⟨8, (s388).er, r388⟩ := by kernel_rfl
abbrev q388 (O : Ops Tryz.prog) := curF 1 (sfn O (s388) r388)
def g388 : { g // g = q388 } := by
  have h : q388 = q388 := rfl
  conv at h => rhs; reduce
  exact ⟨_, h.symm⟩
def C388 : T 388 := mkRun 1 (k388) (by decide) (g388.1 (theOps Tryz.prog)) (by rw [g388.2])
def s389 : S := .seq (.reg [mK 2 0]) (.seq (.cond (.c (.b false)) (.seq (.reg [mM 3 0, mU 4 (.conv .u32 3), mQ 5 393 [4] (noC _ 393), mM 2 5]) .ret) .skip) (.seq (.reg [mM 6 0, mQ 7 394 [6] (noC _ 394), mM 2 7]) .ret))
def r389 : List ARes := [.t 2]
theorem k389 : compFn Tryz.prog 389 = some ⟨8, (s389).er, r389⟩ := by kernel_rfl
abbrev q389 (O : Ops Tryz.prog) := curF 1 (sfn O (s389) r389)
def g389 : { g // g = q389 } := by
  have h : q389 = q389 := rfl
  conv at h => rhs; reduce
  exact ⟨_, h.symm⟩
def C389 : T 389 := mkRun 1 (k389) (by decide) (g389.1 (theOps Tryz.prog)) (by rw [g389.2])
def s373 (c388 : T 388) (c389 : T 389) : S := .seq (.reg [mK 10 (.sl 0 none 0 0), mK 11 (.s [])]) (.join [0, 1, 2, 3, 4, 10, 11] [] (.seq (.reg [mM 19 2, mB .lss 20 19 (.c 2), mM 21 20, (mM 22 2).g 21 false, (mB .eql 23 22 (.c 10)).g 21 false, mU 24 (.pick 21 (.c (.b true)) 23), mM 25 24, (mM 26 2).g 25 false, (mB .gtr 27 26 (.c 36)).g 25 false, mU 28 (.pick 25 (.c (.b true)) 27)]) (.cond 28 (.reg [mU 29 (.mkIface 9 (.c (.s [115, 116, 114, 99, 111, 110, 118, 58, 32, 105, 108, 108, 101, 103, 97, 108, 32, 65, 112, 112, 101, 110, 100, 73, 110, 116, 47, 70, 111, 114, 109, 97, 116, 73, 110, 116, 32, 98, 97, 115, 101]))), ⟨none, .pan 29, none⟩]) .skip)) (.seq (.reg [mN 12 (.newz [.i .u8 0, .i .u8 0, .i .u8 0, .i .u8 0, .i .u8 0, .i .u8 0, .i .u8 0, .i .u8 0, .i .u8 0, .i .u8 0, .i .u8 0, .i .u8 0, .i .u8 0, .i .u8 0, .i .u8 0, .i .u8 0, .i .u8 0, .i .u8 0, .i .u8 0, .i .u8 0, .i .u8 0, .i .u8 0, .i .u8 0, .i .u8 0, .i .u8 0, .i .u8 0, .i .u8 0, .i .u8 0, .i .u8 0, .i .u8 0, .i .u8 0, .i .u8 0, .i .u8 0, .i .u8 0, .i .u8 0, .i .u8 0, .i .u8 0, .i .u8 0, .i .u8 0, .i .u8 0, .i .u8 0, .i .u8 0, .i .u8 0, .i .u8 0, .i .u8 0, .i .u8 0, .i .u8 0, .i .u8 0, .i .u8 0, .i .u8 0, .i .u8 0, .i .u8 0, .i .u8 0, .i .u8 0, .i .u8 0, .i .u8 0, .i .u8 0, .i .u8 0, .i .u8 0, .i .u8 0, .i .u8 0, .i .u8 0, .i .u8 0, .i .u8 0, .i .u8 0])]) (.seq (.reg [mK 13 65]) (.join [0, 1, 2, 3, 4, 10, 11, 12, 13] [] (.seq (.reg [mM 30 3]) (.cond 30 (.reg [mM 31 1, mU 32 (.un .neg 31), mM 1 32]) .skip)) (.join [0, 3, 4, 10, 11, 12, 13] [] (.seq (.reg [mM 33 2, mQ 34 388 [33] c388]) (.cond 34 (.join [0, 1, 2, 3, 4, 10, 11, 12, 13, 14] [] (.reg [mM 35 2, mU 36 (.conv .u64 35), mQ 37 389 [36] c389, mU 38 (.conv .u64 37), mM 14 38]) (.seq (.reg [mM 39 2, mU 40 (.conv .u64 39), mM 15 40]) (.join [0, 1, 3, 4, 10, 11, 12, 13, 14, 15, 16] [] (.reg [mM 41 2, mU 42 (.conv .u64 41), mB .sub 43 42 (.c (.i .u64 1)), mM 16 43]) (.seq (.block 0 (.loop [1, 13] [0, 3, 4, 10, 11, 12, 14, 15, 16] (.seq (.seq (.reg [mM 44 1, mM 45 15, mB .geq 46 44 45]) (.cond 46 .skip (.exit 0))) (.block 1 (.seq (.reg [mM 47 13, mB .sub 48 47 (.c 1), mM 13 48]) (.seq (.reg [mM 49 13, mM 50 1, mM 51 16, mB .and 52 50 51, mU 53 (.idxStr (.c (.s [48, 49, 50, 51, 52, 53, 54, 55, 56, 57, 97, 98, 99, 100, 101, 102, 103, 104, 105, 106, 107, 108, 109, 110, 111, 112, 113, 114, 115, 116, 117, 118, 119, 120, 121, 122])) 52), mU 54 (.idxAddrArr 65 1 12 49), mZ (.st 1 54 53)]) (.reg [mM 55 1, mM 56 14, mB .shr 57 55 56, mM 1 57]))))))) (.seq (.reg [mM 58 13, mB .sub 59 58 (.c 1), mM 13 59]) (.reg [mM 60 13, mM 61 1, mU 62 (.idxStr (.c (.s [48, 49, 50, 51, 52, 53, 54, 55, 56, 57, 97, 98, 99, 100, 101, 102, 103, 104, 105, 106, 107, 108, 109, 110, 111, 112, 113, 114, 115, 116, 117, 118, 119, 120, 121, 122])) 61), mU 63 (.idxAddrArr 65 1 12 60), mZ (.st 1 63 62)])))))) (.seq (.reg [mM 64 2, mU 65 (.conv .u64 64), mM 17 65]) (.seq (.block 2 (.loop [1, 13] [0, 3, 4, 10, 11, 12, 17] (.seq (.seq (.reg [mM 66 1, mM 67 17, mB .geq 68 66 67]) (.cond 68 .skip (.exit 2))) (.block 3 (.seq (.reg [mM 69 13, mB .sub 70 69 (.c 1), mM 13 70]) (.seq (.reg [mM 71 1, mM 72 17, mB .quo 73 71 72, mM 18 73]) (.seq (.reg [mM 74 13, mM 75 1, mM 76 18, mM 77 17, mB .mul 78 76 77, mB .sub 79 75 78, mU 80 (.idxStr (.c (.s [48, 49, 50, 51, 52, 53, 54, 55, 56, 57, 97, 98, 99, 100, 101, 102, 103, 104, 105, 106, 107, 108, 109, 110, 111, 112, 113, 114, 115, 116, 117, 118, 119, 120, 121, 122])) 79), mU 81 (.idxAddrArr 65 1 12 74), mZ (.st 1 81 80)]) (.reg [mM 82 18, mM 1 82])))))))) (.seq (.reg [mM 83 13, mB .sub 84 83 (.c 1), mM 13 84]) (.reg [mM 85 13, mM 86 1, mU 87 (.idxStr (.c (.s [48, 49, 50, 51, 52, 53, 54, 55, 56, 57, 97, 98, 99, 100, 101, 102, 103, 104, 105, 106, 107, 108, 109, 110, 111, 112, 113, 114, 115, 116, 117, 118, 119, 120, 121, 122])) 86), mU 88 (.idxAddrArr 65 1 12 85), mZ (.st 1 88 87)])))))) (.join [0, 4, 10, 11, 12, 13] [] (.seq (.reg [mM 89 3]) (.cond 89 (.seq (.reg [mM 90 13, mB .sub 91 90 (.c 1), mM 13 91]) (.reg [mM 92 13, mU 93 (.idxAddrArr 65 1 12 92), mZ (.st 1 93 (.c (.i .u8 45)))])) .skip)) (.seq (.seq (.reg [mM 94 4]) (.cond 94 (.seq (.reg [mM 95 0, mM 96 13, mR 97 (.slArr 65 1 12 (some 96) none), mY 98 (.append 1 1 95 97), mM 10 98]) .ret) .skip)) (.seq (.reg [mM 99 13, mR 100 (.slArr 65 1 12 (some 99) none), mR 101 (.b2s 100), mM 11 101]) .ret))))))))
def r373 : List ARes := [.t 10, .t 11]
theorem k373 (c388 : T 388) (c389 : T 389) : compFn Tryz.prog 373 = some ⟨102, (s373 c388 c389).er, r373⟩ := by kernel_rfl
abbrev q373 (O : Ops Tryz.prog) (c388 : T 388) (c389 : T 389) := curF 5 (sfn O (s373 c388 c389) r373)
def g373 : { g // g = q373 } := by
  have h : q373 = q373 := rfl
  conv at h => rhs; reduce
  exact ⟨_, h.symm⟩
def C373 : T 373 := mkRun 5 (k373 C388 C389) (by decide) (g373.1 (theOps Tryz.prog) C388 C389) (by rw [g373.2])
def s332 (c370 : T 370) (c372 : T 372) (c373 : T 373) : S := .seq (.reg [mK 4 (.s [])]) (.seq (.seq (.reg [mM 10 1, mB .eql 11 10 (.c 10)]) (.cond 11 (.join [0] [] (.seq (.reg [mM 12 0, mB .leq 13 (.c 0) 12, mM 14 13, (mM 15 0).g 14 true, (mB .lss 16 15 (.c 100)).g 14 true, mU 17 (.pick 14 16 (.c (.b false)))]) (.cond 17 (.seq (.reg [mM 18 0, mQ 19 370 [18] c370, mM 4 19]) .ret) .skip)) (.seq (.reg [mN 5 (.newz [.i .u8 0, .i .u8 0, .i .u8 0, .i .u8 0, .i .u8 0, .i .u8 0, .i .u8 0, .i .u8 0, .i .u8 0, .i .u8 0, .i .u8 0, .i .u8 0, .i .u8 0, .i .u8 0, .i .u8 0, .i .u8 0, .i .u8 0, .i .u8 0, .i .u8 0, .i .u8 0, .i .u8 0, .i .u8 0, .i .u8 0, .i .u8 0])]) (.seq (.reg [mM 20 0, mU 21 (.conv .u64 20), mM 6 21]) (.join [0, 5, 6] [] (.seq (.reg [mM 22 0, mB .lss 23 22 (.c 0)]) (.cond 23 (.reg [mM 24 6, mU 25 (.un .neg 24), mM 6 25]) .skip)) (.seq (.reg [mM 26 6, mQ 27 371 [26] (noC _ 371), mM 7 27]) (.seq (.reg [mM 28 7, mB .add 29 (.c 1) 28, mR 30 (.slArr 24 1 5 (some (.c 1)) (some 29)), mM 31 6, mQ 32 372 [30, 31] c372]) (.seq (.seq (.reg [mM 33 0, mB .lss 34 33 (.c 0)]) (.cond 34 (.seq (.reg [mU 35 (.idxAddrArr 24 1 5 (.c 0)), mZ (.st 1 35 (.c (.i .u8 45)))]) (.seq (.reg [mM 36 7, mB .add 37 (.c 1) 36, mR 38 (.slArr 24 1 5 none (some 37)), mR 39 (.b2s 38), mM 4 39]) .ret)) .skip)) (.seq (.reg [mM 40 7, mB .add 41 (.c 1) 40, mR 42 (.slArr 24 1 5 (some (.c 1)) (some 41)), mR 43 (.b2s 42), mM 4 43]) .ret)))))))) .skip)) (.seq (.reg [mM 45 0, mU 46 (.conv .u64 45), mM 47 1, mM 48 0, mB .lss 49 48 (.c 0), mQ 50 373 [.c (.sl 0 none 0 0), 46, 47, 49, .c (.b false)] c373, mM 44 50, mU 51 (.extract 0 44), mU 52 (.extract 1 44), mM 8 51, mM 9 52]) (.seq (.reg [mM 53 9, mM 4 53]) .ret)))
def r332 : List ARes := [.t 4]
theorem k332 (c370 : T 370) (c372 : T 372) (c373 : T 373) : compFn Tryz.prog 332 = some ⟨54, (s332 c370 c372 c373).er, r332⟩ := by kernel_rfl
abbrev q332 (O : Ops Tryz.prog) (c370 : T 370) (c372 : T 372) (c373 : T 373) := curF 2 (sfn O (s332 c370 c372 c373) r332)
def g332 : { g // g = q332 } := by
  have h : q332 = q332 := rfl
  conv at h => rhs; reduce
  exact ⟨_, h.symm⟩
def C332 : T 332 := mkRun 2 (k332 C370 C372 C373) (by decide) (g332.1 (theOps Tryz.prog) C370 C372 C373) (by rw [g332.2])
def s281 (c332 : T 332) : S := .seq (.reg [mK 2 (.s [])]) (.seq (.reg [mM 3 0, mQ 4 332 [3, .c 10] c332, mM 2 4]) .ret)
def r281 : List ARes := [.t 2]
theorem k281 (c332 : T 332) : compFn Tryz.prog 281 = some ⟨5, (s281 c332).er, r281⟩ := by kernel_rfl
abbrev q281 (O : Ops Tryz.prog) (c332 : T 332) := curF 1 (sfn O (s281 c332) r281)
def g281 : { g // g = q281 } := by
  have h : q281 = q281 := rfl
  conv at h => rhs; reduce
  exact ⟨_, h.symm⟩
def C281 : T 281 := mkRun 1 (k281 C332) (by decide) (g281.1 (theOps Tryz.prog) C332) (by rw [g281.2])
def s213 (c281 : T 281) : S := .seq (.reg [mK 2 (.s [])]) (.seq (.reg [mM 3 0, mQ 4 281 [3] c281, mM 2 4]) .ret)
def r213 : List ARes := [.t 2]
theorem k213 (c281 : T 281) : compFn Tryz.prog 213 = some ⟨5, (s213 c281).er, r213⟩ := by kernel_rfl
abbrev q213 (O : Ops Tryz.prog) (c281 : T 281) := curF 1 (sfn O (s213 c281) r213)
def g213 : { g // g = q213 } := by
  have h : q213 = q213 := rfl
  conv at h => rhs; reduce
  exact ⟨_, h.symm⟩
def C213 : T 213 := mkRun 1 (k213 C281) (by decide) (g213.1 (theOps Tryz.prog) C281) (by rw [g213.2])
def s141 (c213 : T 213) : S := .seq (.reg [mK 4 (.s [])]) (.seq (.reg [mM 8 0, mQ 9 213 [8] c213, mB .add 10 (.c (.s [101, 114, 114, 111, 114, 32])) 9, mM 5 10]) (.seq (.seq (.reg [mM 11 1, mU 12 (.lenSl 11), mK 13 0]) (.block 0 (.loop [5, 13] [11, 12] (.seq (.reg [mB .lss 14 13 12]) (.seq (.cond 14 .skip (.exit 0)) (.seq (.block 1 (.seq (.reg [mU 15 (.idxAddrSl 1 11 13), mL 16 15, mM 7 16]) (.reg [mM 17 5, mM 18 7, mQ 19 213 [18] c213, mB .add 20 (.c (.s [32])) 19, mB .add 21 17 20, mM 5 21]))) (.reg [mB .add 22 13 (.c 1), mM 13 22]))))))) (.seq (.reg [mM 23 5, mB .add 24 23 (.c (.s [10])), mM 4 24]) .ret)))
def r141 : List ARes := [.t 4]
theorem k141 (c213 : T 213) : compFn Tryz.prog 141 = some ⟨25, (s141 c213).er, r141⟩ := by kernel_rfl
abbrev q141 (O : Ops Tryz.prog) (c213 : T 213) := curF 2 (sfn O (s141 c213) r141)
def g141 : { g // g = q141 } := by
  have h : q141 = q141 := rfl
  conv at h => rhs; reduce
  exact ⟨_, h.symm⟩
def C141 : T 141 := mkRun 2 (k141 C213) (by decide) (g141.1 (theOps Tryz.prog) C213) (by rw [g141.2])
def s76 (c19 : T 19) (c75 : T 75) (c141 : T 141) : S := .seq (.reg [mK 4 (.s []), mK 5 (.sl 0 none 0 0)]) (.seq (.reg [mK 6 0, mK 7 (.s [])]) (.join [0, 1, 6, 7] [] (.block 0 (.loop [6, 7] [0, 1] (.seq (.seq (.reg [mM 10 6, mM 11 1, mU 12 (.lenSl 11), mB .lss 13 10 12, mM 14 13, (mM 15 1).g 14 true, (mM 16 6).g 14 true, (mU 17 (.idxAddrSl 1 15 16)).g 14 true, (mL 18 17).g 14 true, (mQ 19 75 [18, .c (.s [101, 110, 100])] c75).g 14 true, (mU 20 (.un .not 19)).g 14 true, mU 21 (.pick 14 20 (.c (.b false)))]) (.cond 21 .skip (.exit 0))) (.block 1 (.seq (.reg [mM 22 7, mM 23 1, mM 24 6, mU 25 (.idxAddrSl 1 23 24), mL 26 25, mB .add 27 26 (.c (.s [10])), mB .add 28 22 27, mM 7 28]) (.reg [mM 29 6, mB .add 30 29 (.c 1), mM 6 30])))))) (.join [0, 7, 8] [] (.reg [mM 31 1, mM 32 6, mB .add 33 32 (.c 1), mM 34 1, mU 35 (.lenSl 34), mU 36 (.mxmn false [33, 35]), mU 37 (.slSl 1 31 (some 36) none none), mM 8 37]) (.seq (.seq (.reg [mM 38 0, mU 39 (.nilCheck 38), mF 0 40 39, mL 41 40, mM 42 7, mQ 43 19 [41, 42] c19, mN 9 (.newz [.sl 0 none 0 0, .sl 0 none 0 0, 0, 0]), mZ (.st 4 9 43)]) (.seq (.reg [mF 2 44 9, mL 45 44, mB .neq 46 45 (.c 0)]) (.cond 46 (.seq (.reg [mF 2 47 9, mL 48 47, mF 3 49 9, mL 50 49, mN 51 (.bslice 1 1 [0] [(0, (1, 50))]), mQ 52 141 [48, 51] c141, mM 53 8, mM 4 52, mM 5 53]) .ret) .skip))) (.seq (.reg [mM 54 8, mK 4 (.s []), mM 5 54]) .ret)))))
def r76 : List ARes := [.t 4, .t 5]
theorem k76 (c19 : T 19) (c75 : T 75) (c141 : T 141) : compFn Tryz.prog 76 = some ⟨55, (s76 c19 c75 c141).er, r76⟩ := by kernel_rfl
abbrev q76 (O : Ops Tryz.prog) (c19 : T 19) (c75 : T 75) (c141 : T 141) := curF 2 (sfn O (s76 c19 c75 c141) r76)
def g76 : { g // g = q76 } := by
  have h : q76 = q76 := rfl
  conv at h => rhs; reduce
  exact ⟨_, h.symm⟩
def C76 : T 76 := mkRun 2 (k76 C19 C75 C141) (by decide) (g76.1 (theOps Tryz.prog) C19 C75 C141) (by rw [g76.2])
def s61 : S := .seq (.reg [mK 2 (.sl 0 none 0 0)]) (.seq (.reg [mK 3 (.sl 0 none 0 0)]) (.seq (.join [3, 9, 10, 11] [] (.reg [mM 6 0, mU 7 (.nilCheck 6), mF 2 8 7, mL 9 8, mU 10 (.lenSl 9), mK 11 0]) (.block 0 (.loop [3, 11] [9, 10] (.seq (.reg [mB .lss 12 11 10]) (.seq (.cond 12 .skip (.exit 0)) (.seq (.block 1 (.seq (.reg [mU 13 (.idxAddrSl 6 9 11), mR 14 (.ldN 6 13), mN 5 (.newz [0, .i .u32 0, .i .u32 0, 0, 0, 0]), mZ (.st 6 5 14)]) (.reg [mM 15 3, mF 0 16 5, mR 17 (.ldN 5 16), mN 18 (.bslice 5 1 [0, .i .u32 0, .i .u32 0, 0, 0] [(0, (5, 17))]), mY 19 (.append 5 32 15 18), mM 3 19]))) (.reg [mB .add 20 11 (.c 1), mM 11 20]))))))) (.seq (.reg [mM 21 3, mM 2 21]) .ret)))
def r61 : List ARes := [.t 2]
theorem k61 : compFn Tryz.prog 61 = some ⟨22, (s61).er, r61⟩ := by kernel_rfl
abbrev q61 (O : Ops Tryz.prog) := curF 1 (sfn O (s61) r61)
def g61 : { g // g = q61 } := by
  have h : q61 = q61 := rfl
  conv at h => rhs; reduce
  exact ⟨_, h.symm⟩
def C61 : T 61 := mkRun 1 (k61) (by decide) (g61.1 (theOps Tryz.prog)) (by rw [g61.2])
def s24 (c61 : T 61) : S := .seq (.reg [mK 2 (.sl 0 none 0 0)]) (.seq (.reg [mM 3 0, mU 4 (.nilCheck 3), mF 13 5 4, mL 6 5, mQ 7 61 [6] c61, mM 2 7]) .ret)
def r24 : List ARes := [.t 2]
theorem k24 (c61 : T 61) : compFn Tryz.prog 24 = some ⟨8, (s24 c61).er, r24⟩ := by kernel_rfl
abbrev q24 (O : Ops Tryz.prog) (c61 : T 61) := curF 1 (sfn O (s24 c61) r24)
def g24 : { g // g = q24 } := by
  have h : q24 = q24 := rfl
  conv at h => rhs; reduce
  exact ⟨_, h.symm⟩
def C24 : T 24 := mkRun 1 (k24 C61) (by decide) (g24.1 (theOps Tryz.prog) C61) (by rw [g24.2])
def s131 : S := .seq (.reg [mK 3 (.b false)]) (.seq (.draw 0 [⟨[], [dR 0 4 (.ld1 1) 0, dP 1 5 (.nilCheck 4) 0, dP 2 6 (.fieldAddr 2 5) 0, dR 3 7 (.ld1 6) 0, dP 4 8 (.mv 0) 0, dP 5 9 (.nilCheck 8) 0, dP 6 10 (.fieldAddr 6 9) 0, dR 7 11 (.ld1 10) 0, dP 8 12 (.bin .sub 7 11) 0, dR 9 13 (.ld1 1) 0, dP 10 14 (.nilCheck 13) 0, dP 11 15 (.fieldAddr 1 14) 0, dR 12 16 (.ld1 15) 0, dP 13 17 (.bin .geq 12 16) 0, dP 14 3 (.mv 17) 0], none⟩]) .ret)
def r131 : List ARes := [.t 3]
theorem k131 : compFn Tryz.prog 131 = some ⟨18, (s131).er, r131⟩ := by kernel_rfl
abbrev q131 (O : Ops Tryz.prog) := curF 2 (sfn O (s131) r131)
def g131 : { g // g = q131 } := by
  have h : q131 = q131 := rfl
  conv at h => rhs; reduce
  exact ⟨_, h.symm⟩
def C131 : T 131 := mkRun 2 (k131) (by decide) (g131.1 (theOps Tryz.prog)) (by rw [g131.2])
def A131 : U := ⟨131, C131⟩
def s133 : S := .seq (.reg [mK 2 (.b false)]) (.seq (.reg [mK 2 (.b true)]) .ret)
def r133 : List ARes := [.t 2]
theorem k133 : compFn Tryz.prog 133 = some ⟨3, (s133).er, r133⟩ := by kernel_rfl
abbrev q133 (O : Ops Tryz.prog) := curF 1 (sfn O (s133) r133)
def g133 : { g // g = q133 } := by
  have h : q133 = q133 := rfl
  conv at h => rhs; reduce
  exact ⟨_, h.symm⟩
def C133 : T 133 := mkRun 1 (k133) (by decide) (g133.1 (theOps Tryz.prog)) (by rw [g133.2])
def A133 : U := ⟨133, C133⟩
def s134 : S := .seq (.reg [mK 2 (.sl 0 none 0 0)]) (.seq (.reg [mK 3 (.sl 0 none 0 0)]) (.seq (.seq (.reg [mM 5 0, mU 6 (.nilCheck 5), mF 4 7 6, mL 8 7, mU 9 (.nilCheck 8), mF 8 10 9, mL 11 10, mM 4 11]) (.block 0 (.loop [3, 4] [0] (.seq (.seq (.reg [mM 12 4, mM 13 0, mU 14 (.nilCheck 13), mF 4 15 14, mL 16 15, mR 17 (.peq true 12 16)]) (.cond 17 .skip (.exit 0))) (.seq (.block 1 (.reg [mM 22 3, mM 23 4, mN 24 (.bslice 1 1 [.p none] [(0, (1, 23))]), mY 25 (.append 1 8 22 24), mM 3 25])) (.reg [mM 18 4, mU 19 (.nilCheck 18), mF 8 20 19, mL 21 20, mM 4 21])))))) (.seq (.reg [mM 26 3, mM 2 26]) .ret)))
def r134 : List ARes := [.t 2]
theorem k134 : compFn Tryz.prog 134 = some ⟨27, (s134).er, r134⟩ := by kernel_rfl
abbrev q134 (O : Ops Tryz.prog) := curF 1 (sfn O (s134) r134)
def g134 : { g // g = q134 } := by
  have h : q134 = q134 := rfl
  conv at h => rhs; reduce
  exact ⟨_, h.symm⟩
def C134 : T 134 := mkRun 1 (k134) (by decide) (g134.1 (theOps Tryz.prog)) (by rw [g134.2])
def s181 : S := .draw 0 [⟨[], [dP 0 2 (.mv 0) 0, dP 1 3 (.nilCheck 2) 0, dP 2 4 (.fieldAddr 7 3) 0, dR 3 5 (.ld1 4) 0, dP 4 6 (.mv 0) 0, dP 5 7 (.nilCheck 6) 0, dP 6 8 (.fieldAddr 8 7) 0, dR 7 9 (.ld1 8) 0, dP 8 10 (.mv 0) 0, dP 9 11 (.nilCheck 10) 0, dP 10 12 (.fieldAddr 8 11) 0, dR 11 13 (.ld1 12) 0, dP 12 14 (.mv 0) 0, dP 13 15 (.nilCheck 14) 0, dP 14 16 (.fieldAddr 7 15) 0, dR 15 17 (.ld1 16) 0, dP 16 18 (.nilCheck 5) 0, dP 17 19 (.fieldAddr 8 18) 0], some (mZ (.st 1 19 13))⟩, ⟨[], [dP 19 20 (.nilCheck 9) 1, dP 20 21 (.fieldAddr 7 20) 1], some (mZ (.st 1 21 17))⟩, ⟨[], [], none⟩]
def r181 : List ARes := []
theorem k181 : compFn Tryz.prog 181 = some ⟨22, (s181).er, r181⟩ := by kernel_rfl
abbrev q181 (O : Ops Tryz.prog) := curF 1 (sfn O (s181) r181)
def g181 : { g // g = q181 } := by
  have h : q181 = q181 := rfl
  conv at h => rhs; reduce
  exact ⟨_, h.symm⟩
def C181 : T 181 := mkRun 1 (k181) (by decide) (g181.1 (theOps Tryz.prog)) (by rw [g181.2])
def s184 (c181 : T 181) : S := .seq (.reg [mM 4 1, mQ 5 181 [4] c181]) (.draw 0 [⟨[], [dP 0 6 (.mv 0) 0, dP 1 7 (.nilCheck 6) 0, dP 2 8 (.fieldAddr 5 7) 0, dR 3 9 (.ld1 8) 0, dP 4 10 (.mv 1) 0, dP 5 11 (.nilCheck 10) 0, dP 6 12 (.fieldAddr 0 11) 0, dR 7 13 (.ldN 5 12) 0], some (mZ (.del (.flat [(0, .i), (1, .i), (2, .i), (3, .i), (4, .i)]) 9 13))⟩, ⟨[], [], none⟩])
def r184 : List ARes := []
theorem k184 (c181 : T 181) : compFn Tryz.prog 184 = some ⟨14, (s184 c181).er, r184⟩ := by kernel_rfl
abbrev q184 (O : Ops Tryz.prog) (c181 : T 181) := curF 2 (sfn O (s184 c181) r184)
def g184 : { g // g = q184 } := by
  have h : q184 = q184 := rfl
  conv at h => rhs; reduce
  exact ⟨_, h.symm⟩
def C184 : T 184 := mkRun 2 (k184 C181) (by decide) (g184.1 (theOps Tryz.prog) C181) (by rw [g184.2])
def s327 : S := .seq (.reg [mK 3 (.b false)]) (.seq (.draw 0 [⟨[], [dP 0 4 (.mv 0) 0, dP 1 5 (.nilCheck 4) 0, dP 2 6 (.fieldAddr 5 5) 0, dR 3 7 (.ld1 6) 0, dR 4 8 (.ld1 1) 0, dP 5 9 (.bin .eql 7 8) 0, dP 6 3 (.mv 9) 0], none⟩]) .ret)
def r327 : List ARes := [.t 3]
theorem k327 : compFn Tryz.prog 327 = some ⟨10, (s327).er, r327⟩ := by kernel_rfl
abbrev q327 (O : Ops Tryz.prog) := curF 2 (sfn O (s327) r327)
def g327 : { g // g = q327 } := by
  have h : q327 = q327 := rfl
  conv at h => rhs; reduce
  exact ⟨_, h.symm⟩
def C327 : T 327 := mkRun 2 (k327) (by decide) (g327.1 (theOps Tryz.prog)) (by rw [g327.2])
def A327 : U := ⟨327, C327⟩
def s130 (c134 : T 134) (c160 : T 160) (c184 : T 184) (a131 : U) (a133 : U) (a327 : U) : S := .seq (.reg [mK 4 (.sl 0 none 0 0)]) (.seq (.reg [mK 5 (.sl 0 none 0 0)]) (.seq (.join [0, 1, 5, 9, 10, 11] [] (.reg [mM 8 0, mQ 9 134 [8] c134, mU 10 (.lenSl 9), mK 11 0]) (.block 0 (.loop [5, 11] [0, 1, 9, 10] (.seq (.reg [mB .lss 12 11 10]) (.seq (.cond 12 .skip (.exit 0)) (.join [0, 1, 5, 9, 10, 11] [] (.block 1 (.seq (.reg [mU 13 (.idxAddrSl 1 9 11), mL 14 13, mM 7 14]) (.seq (.reg [mM 15 1, mM 16 7, mV 17 15 [16] [a131, a133, a327] []]) (.cond 17 (.seq (.reg [mM 18 0, mM 19 7, mQ 20 184 [18, 19] c184]) (.reg [mM 21 5, mM 22 7, mU 23 (.nilCheck 22), mF 5 24 23, mL 25 24, mN 26 (.bslice 1 1 [0] [(0, (1, 25))]), mY 27 (.append 1 8 21 26), mM 5 27])) .skip)))) (.reg [mB .add 28 11 (.c 1), mM 11 28]))))))) (.seq (.reg [mM 29 5, mQ 30 160 [29] c160]) (.seq (.reg [mM 31 5, mM 4 31]) .ret))))
def r130 : List ARes := [.t 4]
theorem k130 (c134 : T 134) (c160 : T 160) (c184 : T 184) (a131 : U) (a133 : U) (a327 : U) : compFn Tryz.prog 130 = some ⟨32, (s130 c134 c160 c184 a131 a133 a327).er, r130⟩ := by kernel_rfl
abbrev q130 (O : Ops Tryz.prog) (c134 : T 134) (c160 : T 160) (c184 : T 184) (a131 : U) (a133 : U) (a327 : U) := curF 2 (sfn O (s130 c134 c160 c184 a131 a133 a327) r130)
def g130 : { g // g = q130 } := by
  have h : q130 = q130 := rfl
  conv at h => rhs; reduce
  exact ⟨_, h.symm⟩
def C130 : T 130 := mkRun 2 (k130 C134 C160 C184 A131 A133 A327) (by decide) (g130.1 (theOps Tryz.prog) C134 C160 C184 A131 A133 A327) (by rw [g130.2])
def s65 (c130 : T 130) : S := .seq (.reg [mN 2 (.box 0), mK 4 (.sl 0 none 0 0)]) (.seq (.reg [mL 5 2, mU 6 (.nilCheck 5), mF 2 7 6, mL 8 7, mM 9 1, mU 10 (.mxmn false [9, .c 100000]), mU 11 (.mxmn true [.c 0, 10]), mB .add 12 8 11, mU 13 (.nilCheck 5), mF 2 14 13, mZ (.st 1 14 12)]) (.seq (.reg [mL 15 2, mU 16 (.mkFunc 131 [] [2]), mQ 17 130 [15, 16] c130, mM 4 17]) .ret))
def r65 : List ARes := [.t 4]
theorem k65 (c130 : T 130) : compFn Tryz.prog 65 = some ⟨18, (s65 c130).er, r65⟩ := by kernel_rfl
abbrev q65 (O : Ops Tryz.prog) (c130 : T 130) := curF 2 (sfn O (s65 c130) r65)
def g65 : { g // g = q65 } := by
  have h : q65 = q65 := rfl
  conv at h => rhs; reduce
  exact ⟨_, h.symm⟩
def C65 : T 65 := mkRun 2 (k65 C130) (by decide) (g65.1 (theOps Tryz.prog) C130) (by rw [g65.2])
def s66 : S := .seq (.reg [mM 6 1, mU 7 (.lenSl 6), mK 8 0]) (.block 0 (.loop [8] [0, 6, 7] (.seq (.reg [mB .lss 9 8 7]) (.seq (.cond 9 .skip (.exit 0)) (.seq (.block 1 (.seq (.reg [mU 10 (.idxAddrSl 1 6 8), mL 11 10, mM 5 11]) (.reg [mM 12 0, mU 13 (.nilCheck 12), mF 14 14 13, mL 15 14, mM 16 5, mZ (.del (.one .i) 15 16)]))) (.reg [mB .add 17 8 (.c 1), mM 8 17]))))))
def r66 : List ARes := []
theorem k66 : compFn Tryz.prog 66 = some ⟨18, (s66).er, r66⟩ := by kernel_rfl
abbrev q66 (O : Ops Tryz.prog) := curF 2 (sfn O (s66) r66)
def g66 : { g // g = q66 } := by
  have h : q66 = q66 := rfl
  conv at h => rhs; reduce
  exact ⟨_, h.symm⟩
def C66 : T 66 := mkRun 2 (k66) (by decide) (g66.1 (theOps Tryz.prog)) (by rw [g66.2])
def s67 : S := .seq (.reg [mK 4 0]) (.join [0, 1] [] (.reg [mM 8 1, mU 9 (.mxmn false [8, .c 100000]), mU 10 (.mxmn true [.c 0, 9]), mM 1 10]) (.seq (.reg [mK 5 0]) (.seq (.join [0, 1, 5, 15] [] (.reg [mM 11 0, mU 12 (.nilCheck 11), mF 2 13 12, mL 14 13, mY 15 (.rangeM 14)]) (.block 0 (.loop [5] [0, 1, 15] (.join [0, 1, 5, 15, 17] [] (.reg [mY 16 (.nextM 15), mU 17 (.extract 0 16)]) (.seq (.cond 17 .skip (.exit 0)) (.block 1 (.join [0, 1, 5, 6, 7, 15] [] (.reg [mY 18 (.entryM 15), mU 19 (.extract 0 18), mU 20 (.extract 1 18), mN 6 (.newz [.i .u32 0, .i .u32 0, 0, 0]), mZ (.st 4 6 19), mM 7 20]) (.join [0, 1, 5, 6, 7, 15] [] (.reg [mM 21 7, mU 22 (.nilCheck 21), mF 2 23 22, mL 24 23, mM 25 1, mB .add 26 24 25, mU 27 (.nilCheck 21), mF 2 28 27, mZ (.st 1 28 26)]) (.seq (.draw 0 [⟨[], [dP 0 29 (.mv 7) 0, dP 1 30 (.nilCheck 29) 0, dP 2 31 (.fieldAddr 2 30) 0, dR 3 32 (.ld1 31) 0, dP 4 33 (.mv 0) 0, dP 5 34 (.nilCheck 33) 0, dP 6 35 (.fieldAddr 1 34) 0, dR 7 36 (.ld1 35) 0, dP 8 37 (.bin .geq 32 36) 0], none⟩]) (.cond 37 (.seq (.draw 0 [⟨[], [dP 0 38 (.mv 0) 0, dP 1 39 (.nilCheck 38) 0, dP 2 40 (.fieldAddr 2 39) 0, dR 3 41 (.ld1 40) 0, dR 4 42 (.ldN 4 6) 0], some (mZ (.del (.flat [(0, .i), (1, .i), (2, .i), (3, .i)]) 41 42))⟩, ⟨[], [], none⟩]) (.reg [mM 43 5, mB .add 44 43 (.c 1), mM 5 44])) .skip)))))))))) (.seq (.reg [mM 45 5, mM 4 45]) .ret))))
def r67 : List ARes := [.t 4]
theorem k67 : compFn Tryz.prog 67 = some ⟨46, (s67).er, r67⟩ := by kernel_rfl
abbrev q67 (O : Ops Tryz.prog) := curF 2 (sfn O (s67) r67)
def g67 : { g // g = q67 } := by
  have h : q67 = q67 := rfl
  conv at h => rhs; reduce
  exact ⟨_, h.symm⟩
def C67 : T 67 := mkRun 2 (k67) (by decide) (g67.1 (theOps Tryz.prog)) (by rw [g67.2])
def s89 : S := .seq (.reg [mN 3 (.box 0), mK 4 (.b false)]) (.seq (.draw 0 [⟨[], [dR 0 5 (.ld1 1) 0, dP 1 6 (.nilCheck 5) 0, dP 2 7 (.fieldAddr 0 6) 0, dR 3 8 (.ld1 7) 0, dP 4 9 (.fieldAddr 5 3) 0, dR 5 10 (.ld1 9) 0, dP 6 11 (.bin .sub 8 10) 0, dR 7 12 (.ld1 2) 0, dP 8 13 (.bin .geq 11 12) 0, dP 9 4 (.mv 13) 0], none⟩]) .ret)
def r89 : List ARes := [.t 4]
theorem k89 : compFn Tryz.prog 89 = some ⟨14, (s89).er, r89⟩ := by kernel_rfl
abbrev q89 (O : Ops Tryz.prog) := curF 3 (sfn O (s89) r89)
def g89 : { g // g = q89 } := by
  have h : q89 = q89 := rfl
  conv at h => rhs; reduce
  exact ⟨_, h.symm⟩
def C89 : T 89 := mkRun 3 (k89) (by decide) (g89.1 (theOps Tryz.prog)) (by rw [g89.2])
def A89 : U := ⟨89, C89⟩
def s258 : S := .join [1, 2] [] (.reg [mN 1 (.box 0), mN 2 (.newz [0, .i .u32 0, .i .u32 0, 0, 0])]) (.seq (.reg [mF 0 3 1, mL 4 3, mF 2 5 1, mL 6 5, mF 1 7 1, mL 8 7, mF 4 9 1, mL 10 9, mF 3 11 1, mL 12 11, mU 13 (.build [0, .i .u32 0, .i .u32 0, 0, 0] [(0, (1, 4)), (1, (1, 6)), (2, (1, 8)), (3, (1, 10)), (4, (1, 12))]), mZ (.st 5 2 13)]) .ret)
def r258 : List ARes := [.c true 5 2]
theorem k258 : compFn Tryz.prog 258 = some ⟨14, (s258).er, r258⟩ := by kernel_rfl
abbrev q258 (O : Ops Tryz.prog) := curF 1 (sfn O (s258) r258)
def g258 : { g // g = q258 } := by
  have h : q258 = q258 := rfl
  conv at h => rhs; reduce
  exact ⟨_, h.symm⟩
def C258 : T 258 := mkRun 1 (k258) (by decide) (g258.1 (theOps Tryz.prog)) (by rw [g258.2])
def s183 (c258 : T 258) : S := .join [2, 3] [] (.reg [mN 2 (.box 0), mN 3 (.box 1), mK 4 0, mK 5 (.b false)]) (.seq (.block 0 (.seq (.reg [mR 7 (.ldN 5 2), mR 8 (.ldN 5 3), mU 9 (.eqAgg false [(0, .i), (1, .i), (2, .i), (3, .i), (4, .i)] 7 8), mM 6 9]) (.cond 6 (.seq (.reg [mK 4 0, mK 5 (.b true)]) .ret) (.seq (.draw 0 [⟨[], [dR 0 11 (.ldN 5 2) 1, dR 1 12 (.ldN 5 3) 0], some (mQ 13 258 [12] c258)⟩, ⟨[⟨some 11, .read (.ldN 5 2), none⟩], [dP 3 14 (.eqAgg false [(0, .i), (1, .i), (2, .i), (3, .i), (4, .i)] 11 13) 1, dP 4 10 (.mv 14) 1], none⟩]) (.cond 10 (.seq (.reg [mK 4 1, mK 5 (.b true)]) .ret) .skip))))) (.seq (.reg [mK 4 0, mK 5 (.b false)]) .ret))
def r183 : List ARes := [.t 4, .t 5]
theorem k183 (c258 : T 258) : compFn Tryz.prog 183 = some ⟨15, (s183 c258).er, r183⟩ := by kernel_rfl
abbrev q183 (O : Ops Tryz.prog) (c258 : T 258) := curF 2 (sfn O (s183 c258) r183)
def g183 : { g // g = q183 } := by
  have h : q183 = q183 := rfl
  conv at h => rhs; reduce
  exact ⟨_, h.symm⟩
def C183 : T 183 := mkRun 2 (k183 C258) (by decide) (g183.1 (theOps Tryz.prog) C258) (by rw [g183.2])
def s257 (c183 : T 183) : S := .seq (.reg [mN 2 (.box 0), mK 3 (.b false)]) (.seq (.reg [mR 7 (.ldN 5 1), mF 0 8 2, mR 9 (.ldN 5 8), mQ 10 183 [7, 9] c183, mM 6 10, mU 11 (.extract 0 6), mU 12 (.extract 1 6), mM 4 11, mM 5 12]) (.seq (.reg [mM 13 5, mM 3 13]) .ret))
def r257 : List ARes := [.t 3]
theorem k257 (c183 : T 183) : compFn Tryz.prog 257 = some ⟨14, (s257 c183).er, r257⟩ := by kernel_rfl
abbrev q257 (O : Ops Tryz.prog) (c183 : T 183) := curF 2 (sfn O (s257 c183) r257)
def g257 : { g // g = q257 } := by
  have h : q257 = q257 := rfl
  conv at h => rhs; reduce
  exact ⟨_, h.symm⟩
def C257 : T 257 := mkRun 2 (k257 C183) (by decide) (g257.1 (theOps Tryz.prog) C183) (by rw [g257.2])
def A257 : U := ⟨257, C257⟩
def s197 (a89 : U) (a257 : U) : S := .seq (.reg [mK 4 0]) (.seq (.seq (.reg [mM 6 0, mU 7 (.lenSl 6), mK 8 0]) (.block 0 (.loop [8] [0, 1, 7] (.seq (.reg [mB .lss 9 8 7]) (.seq (.cond 9 .skip (.exit 0)) (.seq (.block 1 (.seq (.reg [mM 10 8, mM 5 10]) (.seq (.reg [mM 11 1, mM 12 0, mM 13 5, mU 14 (.idxAddrSl 6 12 13), mR 15 (.ldN 6 14), mV 16 11 [15] [a89, a257] []]) (.cond 16 (.seq (.reg [mM 17 5, mM 4 17]) .ret) .skip)))) (.reg [mB .add 18 8 (.c 1), mM 8 18]))))))) (.seq (.reg [mK 4 (.i .i64 (-1))]) .ret))
def r197 : List ARes := [.t 4]
theorem k197 (a89 : U) (a257 : U) : compFn Tryz.prog 197 = some ⟨19, (s197 a89 a257).er, r197⟩ := by kernel_rfl
abbrev q197 (O : Ops Tryz.prog) (a89 : U) (a257 : U) := curF 2 (sfn O (s197 a89 a257) r197)
def g197 : { g // g = q197 } := by
  have h : q197 = q197 := rfl
  conv at h => rhs; reduce
  exact ⟨_, h.symm⟩
def C197 : T 197 := mkRun 2 (k197 A89 A257) (by decide) (g197.1 (theOps Tryz.prog) A89 A257) (by rw [g197.2])
def s132 (c197 : T 197) (a89 : U) (a257 : U) : S := .seq (.reg [mK 4 (.sl 0 none 0 0)]) (.seq (.reg [mM 8 0, mM 9 1, mQ 10 197 [8, 9] c197, mM 5 10]) (.seq (.seq (.reg [mM 11 5, mB .eql 12 11 (.c (.i .i64 (-1)))]) (.cond 12 (.seq (.reg [mM 13 0, mM 4 13]) .ret) .skip)) (.seq (.seq (.reg [mM 14 5, mB .add 15 14 (.c 1), mM 6 15]) (.block 0 (.loop [5, 6] [0, 1] (.join [0, 1, 5, 6] [] (.seq (.reg [mM 16 6, mM 17 0, mU 18 (.lenSl 17), mB .lss 19 16 18]) (.cond 19 .skip (.exit 0))) (.join [0, 1, 5, 6] [] (.block 1 (.seq (.reg [mM 22 0, mM 23 6, mU 24 (.idxAddrSl 6 22 23), mR 25 (.ldN 6 24), mN 7 (.newz [0, .i .u32 0, .i .u32 0, 0, 0, 0]), mZ (.st 6 7 25)]) (.seq (.reg [mM 26 1, mR 27 (.ldN 6 7), mV 28 26 [27] [a89, a257] [], mU 29 (.un .not 28)]) (.cond 29 (.seq (.reg [mM 30 0, mM 31 5, mR 32 (.ldN 6 7), mU 33 (.idxAddrSl 6 30 31), mZ (.st 6 33 32)]) (.reg [mM 34 5, mB .add 35 34 (.c 1), mM 5 35])) .skip)))) (.reg [mM 20 6, mB .add 21 20 (.c 1), mM 6 21])))))) (.seq (.reg [mM 36 0, mM 37 5, mU 38 (.slSl 6 36 (some 37) none none), mZ (.clearSl 6 [0, .i .u32 0, .i .u32 0, 0, 0, 0] 38)]) (.seq (.reg [mM 39 0, mM 40 5, mU 41 (.slSl 6 39 none (some 40) none), mM 4 41]) .ret)))))
def r132 : List ARes := [.t 4]
theorem k132 (c197 : T 197) (a89 : U) (a257 : U) : compFn Tryz.prog 132 = some ⟨42, (s132 c197 a89 a257).er, r132⟩ := by kernel_rfl
abbrev q132 (O : Ops Tryz.prog) (c197 : T 197) (a89 : U) (a257 : U) := curF 2 (sfn O (s132 c197 a89 a257) r132)
def g132 : { g // g = q132 } := by
  have h : q132 = q132 := rfl
  conv at h => rhs; reduce
  exact ⟨_, h.symm⟩
def C132 : T 132 := mkRun 2 (k132 C197 A89 A257) (by decide) (g132.1 (theOps Tryz.prog) C197 A89 A257) (by rw [g132.2])
def s68 (c132 : T 132) : S := .seq (.reg [mK 4 0]) (.join [0] [] (.reg [mM 6 0, mU 7 (.nilCheck 6), mF 0 8 7, mL 9 8, mM 10 1, mU 11 (.mxmn false [10, .c 100000]), mU 12 (.mxmn true [.c 0, 11]), mB .add 13 9 12, mU 14 (.nilCheck 6), mF 0 15 14, mZ (.st 1 15 13)]) (.join [0, 5] [] (.reg [mM 16 0, mU 17 (.nilCheck 16), mF 2 18 17, mL 19 18, mU 20 (.lenSl 19), mM 5 20]) (.seq (.draw 0 [⟨[], [dP 0 21 (.mv 0) 1, dP 1 22 (.mv 0) 0, dP 2 23 (.nilCheck 22) 0, dP 3 24 (.fieldAddr 2 23) 0, dR 4 25 (.ld1 24) 0, dP 5 26 (.mv 0) 0, dP 6 27 (.nilCheck 26) 0, dP 7 28 (.fieldAddr 1 27) 0, dR 8 29 (.ld1 28) 0], some (mQ 30 132 [25, 29] c132)⟩, ⟨[], [dP 10 31 (.nilCheck 21) 1, dP 11 32 (.fieldAddr 2 31) 1], some (mZ (.st 1 32 30))⟩, ⟨[], [], none⟩]) (.seq (.reg [mM 33 5, mM 34 0, mU 35 (.nilCheck 34), mF 2 36 35, mL 37 36, mU 38 (.lenSl 37), mB .sub 39 33 38, mM 4 39]) .ret))))
def r68 : List ARes := [.t 4]
theorem k68 (c132 : T 132) : compFn Tryz.prog 68 = some ⟨40, (s68 c132).er, r68⟩ := by kernel_rfl
abbrev q68 (O : Ops Tryz.prog) (c132 : T 132) := curF 2 (sfn O (s68 c132) r68)
def g68 : { g // g = q68 } := by
  have h : q68 = q68 := rfl
  conv at h => rhs; reduce
  exact ⟨_, h.symm⟩
def C68 : T 68 := mkRun 2 (k68 C132) (by decide) (g68.1 (theOps Tryz.prog) C132) (by rw [g68.2])
def s28 (c65 : T 65) (c66 : T 66) (c67 : T 67) (c68 : T 68) : S := .seq (.reg [mN 4 (.newz [.sl 0 none 0 0, .sl 0 none 0 0, 0, 0])]) (.join [0, 1, 4, 5] [] (.reg [mM 6 0, mU 7 (.nilCheck 6), mF 12 8 7, mL 9 8, mM 10 1, mQ 11 65 [9, 10] c65, mM 5 11]) (.seq (.reg [mM 12 0, mM 13 5, mQ 14 66 [12, 13] c66]) (.seq (.draw 0 [⟨[], [dP 0 15 (.mv 0) 1, dP 1 16 (.nilCheck 15) 1, dP 2 17 (.fieldAddr 15 16) 1, dP 3 18 (.fieldAddr 11 17) 1, dR 4 19 (.ld1 18) 1, dP 5 20 (.mv 5) 1, dP 6 21 (.lenSl 20) 1, dP 7 22 (.mv 0) 0, dP 8 23 (.nilCheck 22) 0, dP 9 24 (.fieldAddr 11 23) 0, dR 10 25 (.ld1 24) 0, dP 11 26 (.mv 1) 0], some (mQ 27 67 [25, 26] c67)⟩, ⟨[⟨some 19, .read (.ld1 18), none⟩], [dP 13 28 (.bin .add 21 27) 1, dP 14 29 (.bin .add 19 28) 1, dP 15 30 (.nilCheck 15) 1, dP 16 31 (.fieldAddr 15 30) 1, dP 17 32 (.fieldAddr 11 31) 1], some (mZ (.st 1 32 29))⟩, ⟨[], [], none⟩]) (.seq (.reg [mM 33 0, mU 34 (.nilCheck 33), mF 13 35 34, mL 36 35, mM 37 1, mQ 38 68 [36, 37] c68]) (.seq (.reg [mU 39 (.build [.sl 0 none 0 0, .sl 0 none 0 0, 0, 0] []), mZ (.st 4 4 39)]) .ret)))))
def r28 : List ARes := [.c true 4 4]
theorem k28 (c65 : T 65) (c66 : T 66) (c67 : T 67) (c68 : T 68) : compFn Tryz.prog 28 = some ⟨40, (s28 c65 c66 c67 c68).er, r28⟩ := by kernel_rfl
abbrev q28 (O : Ops Tryz.prog) (c65 : T 65) (c66 : T 66) (c67 : T 67) (c68 : T 68) := curF 2 (sfn O (s28 c65 c66 c67 c68) r28)
def g28 : { g // g = q28 } := by
  have h : q28 = q28 := rfl
  conv at h => rhs; reduce
  exact ⟨_, h.symm⟩
def C28 : T 28 := mkRun 2 (k28 C65 C66 C67 C68) (by decide) (g28.1 (theOps Tryz.prog) C65 C66 C67 C68) (by rw [g28.2])
def s69 : S := .seq (.reg [mK 2 0]) (.seq (.reg [mM 4 0, mU 5 (.nilCheck 4), mF 2 6 5, mL 7 6, mU 8 (.lenSl 7), mM 3 8]) (.seq (.reg [mM 9 0, mU 10 (.nilCheck 9), mF 2 11 10, mZ (.st 1 11 (.c (.sl 0 none 0 0)))]) (.seq (.reg [mM 12 3, mM 2 12]) .ret)))
def r69 : List ARes := [.t 2]
theorem k69 : compFn Tryz.prog 69 = some ⟨13, (s69).er, r69⟩ := by kernel_rfl
abbrev q69 (O : Ops Tryz.prog) := curF 1 (sfn O (s69) r69)
def g69 : { g // g = q69 } := by
  have h : q69 = q69 := rfl
  conv at h => rhs; reduce
  exact ⟨_, h.symm⟩
def C69 : T 69 := mkRun 1 (k69) (by decide) (g69.1 (theOps Tryz.prog)) (by rw [g69.2])
def s29 (c69 : T 69) : S := .seq (.reg [mN 2 (.newz [.sl 0 none 0 0, .sl 0 none 0 0, 0, 0])]) (.seq (.reg [mM 3 0, mU 4 (.nilCheck 3), mF 13 5 4, mL 6 5, mQ 7 69 [6] c69]) (.seq (.reg [mU 8 (.build [.sl 0 none 0 0, .sl 0 none 0 0, 0, 0] []), mZ (.st 4 2 8)]) .ret))
def r29 : List ARes := [.c true 4 2]
theorem k29 (c69 : T 69) : compFn Tryz.prog 29 = some ⟨9, (s29 c69).er, r29⟩ := by kernel_rfl
abbrev q29 (O : Ops Tryz.prog) (c69 : T 69) := curF 1 (sfn O (s29 c69) r29)
def g29 : { g // g = q29 } := by
  have h : q29 = q29 := rfl
  conv at h => rhs; reduce
  exact ⟨_, h.symm⟩
def C29 : T 29 := mkRun 1 (k29 C69) (by decide) (g29.1 (theOps Tryz.prog) C69) (by rw [g29.2])
def s70 (c130 : T 130) : S := .seq (.reg [mK 2 (.sl 0 none 0 0)]) (.seq (.reg [mM 3 0, mQ 4 130 [3, .fn 133] c130, mM 2 4]) .ret)
def r70 : List ARes := [.t 2]
theorem k70 (c130 : T 130) : compFn Tryz.prog 70 = some ⟨5, (s70 c130).er, r70⟩ := by kernel_rfl
abbrev q70 (O : Ops Tryz.prog) (c130 : T 130) := curF 1 (sfn O (s70 c130) r70)
def g70 : { g // g = q70 } := by
  have h : q70 = q70 := rfl
  conv at h => rhs; reduce
  exact ⟨_, h.symm⟩
def C70 : T 70 := mkRun 1 (k70 C130) (by decide) (g70.1 (theOps Tryz.prog) C130) (by rw [g70.2])
def s71 : S := .reg [mM 2 0, mU 3 (.nilCheck 2), mF 2 4 3, mL 5 4, mZ (.clearM 5)]
def r71 : List ARes := []
theorem k71 : compFn Tryz.prog 71 = some ⟨6, (s71).er, r71⟩ := by kernel_rfl
abbrev q71 (O : Ops Tryz.prog) := curF 1 (sfn O (s71) r71)
def g71 : { g // g = q71 } := by
  have h : q71 = q71 := rfl
  conv at h => rhs; reduce
  exact ⟨_, h.symm⟩
def C71 : T 71 := mkRun 1 (k71) (by decide) (g71.1 (theOps Tryz.prog)) (by rw [g71.2])
def s30 (c66 : T 66) (c70 : T 70) (c71 : T 71) : S := .seq (.reg [mN 2 (.newz [.sl 0 none 0 0, .sl 0 none 0 0, 0, 0])]) (.seq (.reg [mM 3 0, mM 4 0, mU 5 (.nilCheck 4), mF 12 6 5, mL 7 6, mQ 8 70 [7] c70, mQ 9 66 [3, 8] c66]) (.seq (.reg [mM 10 0, mU 11 (.nilCheck 10), mF 11 12 11, mL 13 12, mQ 14 71 [13] c71]) (.seq (.reg [mU 15 (.build [.sl 0 none 0 0, .sl 0 none 0 0, 0, 0] []), mZ (.st 4 2 15)]) .ret)))
def r30 : List ARes := [.c true 4 2]
theorem k30 (c66 : T 66) (c70 : T 70) (c71 : T 71) : compFn Tryz.prog 30 = some ⟨16, (s30 c66 c70 c71).er, r30⟩ := by kernel_rfl
abbrev q30 (O : Ops Tryz.prog) (c66 : T 66) (c70 : T 70) (c71 : T 71) := curF 1 (sfn O (s30 c66 c70 c71) r30)
def g30 : { g // g = q30 } := by
  have h : q30 = q30 := rfl
  conv at h => rhs; reduce
  exact ⟨_, h.symm⟩
def C30 : T 30 := mkRun 1 (k30 C66 C70 C71) (by decide) (g30.1 (theOps Tryz.prog) C66 C70 C71) (by rw [g30.2])
def s72 (c134 : T 134) : S := .seq (.reg [mK 2 (.sl 0 none 0 0)]) (.seq (.reg [mK 3 (.sl 0 none 0 0)]) (.seq (.seq (.reg [mM 6 0, mQ 7 134 [6] c134, mU 8 (.lenSl 7), mK 9 0]) (.block 0 (.loop [3, 9] [7, 8] (.seq (.reg [mB .lss 10 9 8]) (.seq (.cond 10 .skip (.exit 0)) (.seq (.block 1 (.seq (.reg [mU 11 (.idxAddrSl 1 7 9), mL 12 11, mM 5 12]) (.reg [mM 13 3, mM 14 5, mU 15 (.nilCheck 14), mF 0 16 15, mR 17 (.ldN 5 16), mN 18 (.bslice 5 1 [0, .i .u32 0, .i .u32 0, 0, 0] [(0, (5, 17))]), mY 19 (.append 5 32 13 18), mM 3 19]))) (.reg [mB .add 20 9 (.c 1), mM 9 20]))))))) (.seq (.reg [mM 21 3, mM 2 21]) .ret)))
def r72 : List ARes := [.t 2]
theorem k72 (c134 : T 134) : compFn Tryz.prog 72 = some ⟨22, (s72 c134).er, r72⟩ := by kernel_rfl
abbrev q72 (O : Ops Tryz.prog) (c134 : T 134) := curF 1 (sfn O (s72 c134) r72)
def g72 : { g // g = q72 } := by
  have h : q72 = q72 := rfl
  conv at h => rhs; reduce
  exact ⟨_, h.symm⟩
def C72 : T 72 := mkRun 1 (k72 C134) (by decide) (g72.1 (theOps Tryz.prog) C134) (by rw [g72.2])
def s31 (c72 : T 72) : S := .seq (.reg [mK 2 (.sl 0 none 0 0)]) (.seq (.reg [mM 3 0, mU 4 (.nilCheck 3), mF 12 5 4, mL 6 5, mQ 7 72 [6] c72, mM 2 7]) .ret)
def r31 : List ARes := [.t 2]
theorem k31 (c72 : T 72) : compFn Tryz.prog 31 = some ⟨8, (s31 c72).er, r31⟩ := by kernel_rfl
abbrev q31 (O : Ops Tryz.prog) (c72 : T 72) := curF 1 (sfn O (s31 c72) r31)
def g31 : { g // g = q31 } := by
  have h : q31 = q31 := rfl
  conv at h => rhs; reduce
  exact ⟨_, h.symm⟩
def C31 : T 31 := mkRun 1 (k31 C72) (by decide) (g31.1 (theOps Tryz.prog) C72) (by rw [g31.2])
def s98 : S := .seq (.reg [mK 2 (.b false)]) (.seq (.reg [mM 3 0, mU 4 (.nilCheck 3), mL 5 4, mB .add 6 5 (.c 1), mU 7 (.nilCheck 3), mZ (.st 1 7 6)]) (.seq (.reg [mK 2 (.b false)]) .ret))
def r98 : List ARes := [.t 2]
theorem k98 : compFn Tryz.prog 98 = some ⟨8, (s98).er, r98⟩ := by kernel_rfl
abbrev q98 (O : Ops Tryz.prog) := curF 1 (sfn O (s98) r98)
def g98 : { g // g = q98 } := by
  have h : q98 = q98 := rfl
  conv at h => rhs; reduce
  exact ⟨_, h.symm⟩
def C98 : T 98 := mkRun 1 (k98) (by decide) (g98.1 (theOps Tryz.prog)) (by rw [g98.2])
def s162 : S := .seq (.reg [mK 2 0]) (.seq (.reg [mK 3 0]) (.seq (.seq (.reg [mM 6 0, mM 7 0, mU 8 (.lenS 7), mB .sub 9 8 (.c 7), mU 10 (.mxmn true [.c 0, 9]), mU 11 (.slStr 6 (some 10) none), mN 12 (.s2b 11), mU 13 (.lenSl 12), mK 14 0]) (.block 0 (.loop [3, 14] [12, 13] (.seq (.reg [mB .lss 15 14 13]) (.seq (.cond 15 .skip (.exit 0)) (.seq (.block 1 (.seq (.reg [mU 16 (.idxAddrSl 1 12 14), mL 17 16, mM 5 17]) (.reg [mM 18 3, mB .shl 19 18 (.c (.i .u64 8)), mM 20 5, mU 21 (.conv .i64 20), mB .or 22 19 21, mM 3 22]))) (.reg [mB .add 23 14 (.c 1), mM 14 23]))))))) (.seq (.reg [mM 24 3, mM 2 24]) .ret)))
def r162 : List ARes := [.t 2]
theorem k162 : compFn Tryz.prog 162 = some ⟨25, (s162).er, r162⟩ := by kernel_rfl
abbrev q162 (O : Ops Tryz.prog) := curF 1 (sfn O (s162) r162)
def g162 : { g // g = q162 } := by
  have h : q162 = q162 := rfl
  conv at h => rhs; reduce
  exact ⟨_, h.symm⟩
def C162 : T 162 := mkRun 1 (k162) (by decide) (g162.1 (theOps Tryz.prog)) (by rw [g162.2])
def s99 (c162 : T 162) : S := .seq (.reg [mN 2 (.newz [.i .u8 0, .i .u8 0, .i .u8 0, .i .u8 0, .i .u8 0, .i .u8 0, .i .u8 0, .i .u8 0, .i .u8 0, .i .u8 0, .i .u8 0, .i .u8 0, 0]), mK 3 (.s []), mK 4 0]) (.join [0, 2] [] (.block 0 (.seq (.reg [mM 7 0, mU 8 (.lenS 7), mB .lss 9 8 (.c 14), mM 6 9]) (.cond 6 (.seq (.reg [mU 10 (.build [.i .u8 0, .i .u8 0, .i .u8 0, .i .u8 0, .i .u8 0, .i .u8 0, .i .u8 0, .i .u8 0, .i .u8 0, .i .u8 0, .i .u8 0, .i .u8 0, 0] []), mZ (.st 13 2 10), mK 3 (.s []), mK 4 2]) .ret) (.seq (.reg [mM 12 0, mU 13 (.lenS 12), mB .gtr 14 13 (.c 3000), mM 11 14]) (.cond 11 (.seq (.reg [mU 15 (.build [.i .u8 0, .i .u8 0, .i .u8 0, .i .u8 0, .i .u8 0, .i .u8 0, .i .u8 0, .i .u8 0, .i .u8 0, .i .u8 0, .i .u8 0, .i .u8 0, 0] []), mZ (.st 13 2 15), mK 3 (.s []), mK 4 5]) .ret) .skip))))) (.seq (.reg [mN 5 (.newz [.i .u8 0, .i .u8 0, .i .u8 0, .i .u8 0, .i .u8 0, .i .u8 0, .i .u8 0, .i .u8 0, .i .u8 0, .i .u8 0, .i .u8 0, .i .u8 0, 0])]) (.join [0, 2, 5] [] (.reg [mF 0 16 5, mR 17 (.slArr 6 1 16 none none), mM 18 0, mY 19 (.copy 1 17 18)]) (.join [0, 2, 5] [] (.draw 0 [⟨[], [dP 0 20 (.fieldAddr 6 5) 0, dR 1 21 (.slArr 6 1 20 none none) 0, dP 2 22 (.mv 0) 0, dP 3 23 (.slStr 22 (some (.c 6)) none) 0], some (mY 24 (.copy 1 21 23))⟩, ⟨[], [], none⟩]) (.seq (.reg [mM 25 0, mU 26 (.slStr 25 (some (.c 12)) (some (.c 14))), mQ 27 162 [26] c162, mF 12 28 5, mZ (.st 1 28 27)]) (.seq (.draw 0 [⟨[], [dR 0 29 (.ldN 13 5) 0, dP 1 30 (.mv 0) 1, dP 2 31 (.slStr 30 (some (.c 14)) none) 1], some (mZ (.st 13 2 29))⟩, ⟨[], [dP 4 3 (.mv 31) 1, dP 5 4 (.mv (.c 0)) 1], none⟩]) .ret))))))
def r99 : List ARes := [.c true 13 2, .t 3, .t 4]
theorem k99 (c162 : T 162) : compFn Tryz.prog 99 = some ⟨32, (s99 c162).er, r99⟩ := by kernel_rfl
abbrev q99 (O : Ops Tryz.prog) (c162 : T 162) := curF 1 (sfn O (s99 c162) r99)
def g99 : { g // g = q99 } := by
  have h : q99 = q99 := rfl
  conv at h => rhs; reduce
  exact ⟨_, h.symm⟩
def C99 : T 99 := mkRun 1 (k99 C162) (by decide) (g99.1 (theOps Tryz.prog) C162) (by rw [g99.2])
def s48 (c98 : T 98) (c99 : T 99) : S := .seq (.reg [mK 4 (.b false)]) (.join [0, 1] [] (.seq (.reg [mM 8 1, mU 9 (.nilCheck 8), mF 0 10 9, mL 11 10, mB .neq 12 11 (.c 0), mM 13 12, (mM 14 1).g 13 true, (mU 15 (.nilCheck 14)).g 13 true, (mF 0 16 15).g 13 true, (mL 17 16).g 13 true, (mB .neq 18 17 (.c 1)).g 13 true, mU 19 (.pick 13 18 (.c (.b false)))]) (.cond 19 (.seq (.reg [mM 20 0, mU 21 (.nilCheck 20), mF 15 22 21, mF 2 23 22, mQ 24 98 [23] c98, mM 4 24]) .ret) .skip)) (.join [0, 1, 5, 6, 7] [] (.reg [mM 26 1, mU 27 (.nilCheck 26), mF 1 28 27, mL 29 28, mQ 30 99 [29] c99, mM 25 30, mU 31 (.extract 0 25), mU 32 (.extract 1 25), mU 33 (.extract 2 25), mN 5 (.newz [.i .u8 0, .i .u8 0, .i .u8 0, .i .u8 0, .i .u8 0, .i .u8 0, .i .u8 0, .i .u8 0, .i .u8 0, .i .u8 0, .i .u8 0, .i .u8 0, 0]), mZ (.st 13 5 31), mM 6 32, mM 7 33]) (.seq (.seq (.reg [mM 34 7, mB .neq 35 34 (.c 0)]) (.cond 35 (.seq (.reg [mM 36 0, mU 37 (.nilCheck 36), mF 15 38 37, mF 2 39 38, mQ 40 98 [39] c98, mM 4 40]) .ret) .skip)) (.seq (.reg [mM 41 1, mM 42 1, mR 43 (.ldN 13 5), mM 44 6, mU 45 (.nilCheck 41), mF 2 46 45, mZ (.st 13 46 43), mU 47 (.nilCheck 42), mF 25 48 47, mZ (.st 1 48 44)]) (.seq (.reg [mK 4 (.b true)]) .ret)))))
def r48 : List ARes := [.t 4]
theorem k48 (c98 : T 98) (c99 : T 99) : compFn Tryz.prog 48 = some ⟨49, (s48 c98 c99).er, r48⟩ := by kernel_rfl
abbrev q48 (O : Ops Tryz.prog) (c98 : T 98) (c99 : T 99) := curF 2 (sfn O (s48 c98 c99) r48)
def g48 : { g // g = q48 } := by
  have h : q48 = q48 := rfl
  conv at h => rhs; reduce
  exact ⟨_, h.symm⟩
def C48 : T 48 := mkRun 2 (k48 C98 C99) (by decide) (g48.1 (theOps Tryz.prog) C98 C99) (by rw [g48.2])
def A48 : U := ⟨48, C48⟩
def s116 : S := .reg [mM 6 0, mM 7 0, mU 8 (.nilCheck 7), mF 43 9 8, mF 0 10 9, mL 11 10, mM 12 1, mM 13 2, mU 14 (.build [0, .s []] [(0, (1, 12)), (1, (1, 13))]), mN 15 (.bslice 2 1 [0, .s []] [(0, (2, 14))]), mY 16 (.append 2 24 11 15), mU 17 (.nilCheck 6), mF 43 18 17, mF 0 19 18, mZ (.st 1 19 16)]
def r116 : List ARes := []
theorem k116 : compFn Tryz.prog 116 = some ⟨20, (s116).er, r116⟩ := by kernel_rfl
abbrev q116 (O : Ops Tryz.prog) := curF 3 (sfn O (s116) r116)
def g116 : { g // g = q116 } := by
  have h : q116 = q116 := rfl
  conv at h => rhs; reduce
  exact ⟨_, h.symm⟩
def C116 : T 116 := mkRun 3 (k116) (by decide) (g116.1 (theOps Tryz.prog)) (by rw [g116.2])
def s100 (c98 : T 98) (c116 : T 116) : S := .seq (.reg [mK 6 (.b false)]) (.seq (.reg [mM 7 1, mM 8 1, mU 9 (.nilCheck 8), mF 0 10 9, mL 11 10, mB .sub 12 (.c 1) 11, mM 13 2, mQ 14 116 [7, 12, 13] c116]) (.seq (.reg [mM 15 0, mU 16 (.nilCheck 15), mF 15 17 16, mF 1 18 17, mQ 19 98 [18] c98, mM 6 19]) .ret))
def r100 : List ARes := [.t 6]
theorem k100 (c98 : T 98) (c116 : T 116) : compFn Tryz.prog 100 = some ⟨20, (s100 c98 c116).er, r100⟩ := by kernel_rfl
abbrev q100 (O : Ops Tryz.prog) (c98 : T 98) (c116 : T 116) := curF 3 (sfn O (s100 c98 c116) r100)
def g100 : { g // g = q100 } := by
  have h : q100 = q100 := rfl
  conv at h => rhs; reduce
  exact ⟨_, h.symm⟩
def C100 : T 100 := mkRun 3 (k100 C98 C116) (by decide) (g100.1 (theOps Tryz.prog) C98 C116) (by rw [g100.2])
def s49 (c100 : T 100) : S := .seq (.reg [mK 4 (.b false)]) (.seq (.seq (.reg [mM 5 1, mU 6 (.nilCheck 5), mF 2 7 6, mF 12 8 7, mL 9 8, mB .neq 10 9 (.c 2048)]) (.cond 10 (.seq (.reg [mM 11 0, mM 12 1, mM 13 1, mU 14 (.nilCheck 13), mF 1 15 14, mL 16 15, mQ 17 100 [11, 12, 16] c100, mM 4 17]) .ret) .skip)) (.seq (.reg [mK 4 (.b true)]) .ret))
def r49 : List ARes := [.t 4]
theorem k49 (c100 : T 100) : compFn Tryz.prog 49 = some ⟨18, (s49 c100).er, r49⟩ := by kernel_rfl
abbrev q49 (O : Ops Tryz.prog) (c100 : T 100) := curF 2 (sfn O (s49 c100) r49)
def g49 : { g // g = q49 } := by
  have h : q49 = q49 := rfl
  conv at h => rhs; reduce
  exact ⟨_, h.symm⟩
def C49 : T 49 := mkRun 2 (k49 C100) (by decide) (g49.1 (theOps Tryz.prog) C100) (by rw [g49.2])
def A49 : U := ⟨49, C49⟩
def s163 : S := .seq (.reg [mK 0 (.sl 0 none 0 0)]) (.seq (.reg [mU 1 (.build [.nf, 0] [(0, (1, .fn 244)), (1, (1, .c 2))]), mU 2 (.build [.nf, 0] [(0, (1, .fn 245)), (1, (1, .c 3))]), mU 3 (.build [.nf, 0] [(0, (1, .fn 246)), (1, (1, .c 2))]), mU 4 (.build [.nf, 0] [(0, (1, .fn 247)), (1, (1, .c 3))]), mU 5 (.build [.nf, 0] [(0, (1, .fn 248)), (1, (1, .c 2))]), mU 6 (.build [.nf, 0] [(0, (1, .fn 249)), (1, (1, .c 3))]), mU 7 (.build [.nf, 0] [(0, (1, .fn 250)), (1, (1, .c 5))]), mU 8 (.build [.nf, 0] [(0, (1, .fn 251)), (1, (1, .c 4))]), mN 9 (.bslice 2 8 [.nf, 0, .nf, 0, .nf, 0, .nf, 0, .nf, 0, .nf, 0, .nf, 0, .nf, 0] [(0, (2, 1)), (2, (2, 2)), (4, (2, 3)), (6, (2, 4)), (8, (2, 5)), (10, (2, 6)), (12, (2, 7)), (14, (2, 8))]), mM 0 9]) .ret)
def r163 : List ARes := [.t 0]
theorem k163 : compFn Tryz.prog 163 = some ⟨10, (s163).er, r163⟩ := by kernel_rfl
abbrev q163 (O : Ops Tryz.prog) := curF 0 (sfn O (s163) r163)
def g163 : { g // g = q163 } := by
  have h : q163 = q163 := rfl
  conv at h => rhs; reduce
  exact ⟨_, h.symm⟩
def C163 : T 163 := mkRun 0 (k163) (by decide) (g163.1 (theOps Tryz.prog)) (by rw [g163.2])
def s164 : S := .seq (.reg [mK 2 0]) (.seq (.reg [mM 3 0, mU 4 (.idxStr 3 (.c 0)), mU 5 (.conv .i64 4), mB .and 6 5 (.c 15), mB .mul 7 (.c 4) 6, mM 2 7]) .ret)
def r164 : List ARes := [.t 2]
theorem k164 : compFn Tryz.prog 164 = some ⟨8, (s164).er, r164⟩ := by kernel_rfl
abbrev q164 (O : Ops Tryz.prog) := curF 1 (sfn O (s164) r164)
def g164 : { g // g = q164 } := by
  have h : q164 = q164 := rfl
  conv at h => rhs; reduce
  exact ⟨_, h.symm⟩
def C164 : T 164 := mkRun 1 (k164) (by decide) (g164.1 (theOps Tryz.prog)) (by rw [g164.2])
def s165 (c162 : T 162) : S := .seq (.reg [mK 2 0]) (.seq (.reg [mM 3 0, mU 4 (.slStr 3 (some (.c 2)) (some (.c 4))), mQ 5 162 [4] c162, mM 2 5]) .ret)
def r165 : List ARes := [.t 2]
theorem k165 (c162 : T 162) : compFn Tryz.prog 165 = some ⟨6, (s165 c162).er, r165⟩ := by kernel_rfl
abbrev q165 (O : Ops Tryz.prog) (c162 : T 162) := curF 1 (sfn O (s165 c162) r165)
def g165 : { g // g = q165 } := by
  have h : q165 = q165 := rfl
  conv at h => rhs; reduce
  exact ⟨_, h.symm⟩
def C165 : T 165 := mkRun 1 (k165 C162) (by decide) (g165.1 (theOps Tryz.prog) C162) (by rw [g165.2])
def s170 (c162 : T 162) : S := .seq (.reg [mK 2 (.b false)]) (.seq (.reg [mM 3 0, mU 4 (.slStr 3 (some (.c 4)) (some (.c 6))), mQ 5 162 [4] c162, mM 6 0, mU 7 (.lenS 6), mB .neq 8 5 7, mM 2 8]) .ret)
def r170 : List ARes := [.t 2]
theorem k170 (c162 : T 162) : compFn Tryz.prog 170 = some ⟨9, (s170 c162).er, r170⟩ := by kernel_rfl
abbrev q170 (O : Ops Tryz.prog) (c162 : T 162) := curF 1 (sfn O (s170 c162) r170)
def g170 : { g // g = q170 } := by
  have h : q170 = q170 := rfl
  conv at h => rhs; reduce
  exact ⟨_, h.symm⟩
def C170 : T 170 := mkRun 1 (k170 C162) (by decide) (g170.1 (theOps Tryz.prog) C162) (by rw [g170.2])
def A170 : U := ⟨170, C170⟩
def s253 : S := .seq (.reg [mK 2 0]) (.seq (.block 0 (.loop [0] [] (.seq (.seq (.reg [mM 3 0, mB .gtr 4 3 (.c 65535)]) (.cond 4 .skip (.exit 0))) (.block 1 (.reg [mM 5 0, mB .and 6 5 (.c 65535), mM 7 0, mB .shr 8 7 (.c (.i .u64 16)), mB .add 9 6 8, mM 0 9]))))) (.seq (.reg [mM 10 0, mM 2 10]) .ret))
def r253 : List ARes := [.t 2]
theorem k253 : compFn Tryz.prog 253 = some ⟨11, (s253).er, r253⟩ := by kernel_rfl
abbrev q253 (O : Ops Tryz.prog) := curF 1 (sfn O (s253) r253)
def g253 : { g // g = q253 } := by
  have h : q253 = q253 := rfl
  conv at h => rhs; reduce
  exact ⟨_, h.symm⟩
def C253 : T 253 := mkRun 1 (k253) (by decide) (g253.1 (theOps Tryz.prog)) (by rw [g253.2])
def s172 (c253 : T 253) : S := .seq (.reg [mK 2 0]) (.seq (.reg [mK 3 0, mK 4 0]) (.seq (.seq (.reg [mM 8 0, mU 9 (.lenSl 8), mK 10 0]) (.block 0 (.loop [3, 4, 10] [8, 9] (.seq (.reg [mB .lss 11 10 9]) (.seq (.cond 11 .skip (.exit 0)) (.seq (.block 1 (.join [3, 4, 6, 8, 9, 10] [] (.reg [mU 12 (.idxAddrSl 1 8 10), mL 13 12, mM 6 13]) (.seq (.reg [mM 14 6, mU 15 (.lenS 14), mK 16 0]) (.block 2 (.loop [3, 4, 16] [6, 8, 9, 10, 15] (.seq (.reg [mB .lss 17 16 15]) (.seq (.cond 17 .skip (.exit 2)) (.seq (.block 3 (.seq (.reg [mM 18 16, mM 7 18]) (.seq (.reg [mM 19 3, mM 20 6, mM 21 7, mU 22 (.idxStr 20 21), mU 23 (.conv .i64 22), mM 24 4, mB .rem 25 24 (.c 2), mB .sub 26 (.c 1) 25, mB .mul 27 (.c 8) 26, mB .shl 28 23 27, mB .add 29 19 28, mQ 30 253 [29] c253, mM 3 30]) (.reg [mM 31 4, mB .add 32 31 (.c 1), mM 4 32])))) (.reg [mB .add 33 16 (.c 1), mM 16 33]))))))))) (.reg [mB .add 34 10 (.c 1), mM 10 34]))))))) (.seq (.reg [mM 35 3, mU 36 (.un .xor 35), mB .and 37 36 (.c 65535), mM 2 37]) .ret)))
def r172 : List ARes := [.t 2]
theorem k172 (c253 : T 253) : compFn Tryz.prog 172 = some ⟨38, (s172 c253).er, r172⟩ := by kernel_rfl
abbrev q172 (O : Ops Tryz.prog) (c253 : T 253) := curF 1 (sfn O (s172 c253) r172)
def g172 : { g // g = q172 } := by
  have h : q172 = q172 := rfl
  conv at h => rhs; reduce
  exact ⟨_, h.symm⟩
def C172 : T 172 := mkRun 1 (k172 C253) (by decide) (g172.1 (theOps Tryz.prog) C253) (by rw [g172.2])
def s254 : S := .seq (.reg [mK 4 (.s [])]) (.join [0, 1] [] (.reg [mM 7 1, mU 8 (.mxmn false [7, .c 8]), mU 9 (.mxmn true [.c 0, 8]), mM 1 9]) (.seq (.reg [mM 10 1, mN 11 (.mkslice 1 1 [.i .u8 0] 10 10), mM 5 11]) (.seq (.seq (.reg [mM 12 5, mU 13 (.lenSl 12), mK 14 0]) (.block 0 (.loop [14] [0, 1, 5, 13] (.seq (.reg [mB .lss 15 14 13]) (.seq (.cond 15 .skip (.exit 0)) (.seq (.block 1 (.seq (.reg [mM 16 14, mM 6 16]) (.reg [mM 17 5, mM 18 1, mB .sub 19 18 (.c 1), mM 20 6, mB .sub 21 19 20, mM 22 0, mM 23 6, mB .mul 24 (.c 8) 23, mB .shr 25 22 24, mU 26 (.conv .u8 25), mU 27 (.idxAddrSl 1 17 21), mZ (.st 1 27 26)]))) (.reg [mB .add 28 14 (.c 1), mM 14 28]))))))) (.seq (.reg [mM 29 5, mR 30 (.b2s 29), mM 4 30]) .ret))))
def r254 : List ARes := [.t 4]
theorem k254 : compFn Tryz.prog 254 = some ⟨31, (s254).er, r254⟩ := by kernel_rfl
abbrev q254 (O : Ops Tryz.prog) := curF 2 (sfn O (s254) r254)
def g254 : { g // g = q254 } := by
  have h : q254 = q254 := rfl
  conv at h => rhs; reduce
  exact ⟨_, h.symm⟩
def C254 : T 254 := mkRun 2 (k254) (by decide) (g254.1 (theOps Tryz.prog)) (by rw [g254.2])
def s173 (c254 : T 254) : S := .seq (.reg [mK 6 (.s [])]) (.seq (.reg [mM 7 0, mU 8 (.conv .i64 7), mQ 9 254 [8, .c 4] c254, mM 10 1, mU 11 (.conv .i64 10), mQ 12 254 [11, .c 4] c254, mB .add 13 9 12, mB .add 14 13 (.c (.s [0])), mQ 15 254 [.c 17, .c 1] c254, mB .add 16 14 15, mM 17 2, mQ 18 254 [17, .c 2] c254, mB .add 19 16 18, mM 6 19]) .ret)
def r173 : List ARes := [.t 6]
theorem k173 (c254 : T 254) : compFn Tryz.prog 173 = some ⟨20, (s173 c254).er, r173⟩ := by kernel_rfl
abbrev q173 (O : Ops Tryz.prog) (c254 : T 254) := curF 3 (sfn O (s173 c254) r173)
def g173 : { g // g = q173 } := by
  have h : q173 = q173 := rfl
  conv at h => rhs; reduce
  exact ⟨_, h.symm⟩
def C173 : T 173 := mkRun 3 (k173 C254) (by decide) (g173.1 (theOps Tryz.prog) C254) (by rw [g173.2])
def s171 (c172 : T 172) (c173 : T 173) : S := .seq (.reg [mK 4 (.b false)]) (.seq (.reg [mM 5 0, mU 6 (.slStr 5 (some (.c 6)) (some (.c 8))), mB .neq 7 6 (.c (.s [0, 0])), mM 8 7, (mL 9 1).g 8 true, (mL 10 2).g 8 true, (mM 11 0).g 8 true, (mU 12 (.lenS 11)).g 8 true, (mQ 13 173 [9, 10, 12] c173).g 8 true, (mM 14 0).g 8 true, (mN 15 (.bslice 1 2 [.s [], .s []] [(0, (1, 13)), (1, (1, 14))])).g 8 true, (mQ 16 172 [15] c172).g 8 true, (mB .neq 17 16 (.c 0)).g 8 true, mU 18 (.pick 8 17 (.c (.b false))), mM 4 18]) .ret)
def r171 : List ARes := [.t 4]
theorem k171 (c172 : T 172) (c173 : T 173) : compFn Tryz.prog 171 = some ⟨19, (s171 c172 c173).er, r171⟩ := by kernel_rfl
abbrev q171 (O : Ops Tryz.prog) (c172 : T 172) (c173 : T 173) := curF 3 (sfn O (s171 c172 c173) r171)
def g171 : { g // g = q171 } := by
  have h : q171 = q171 := rfl
  conv at h => rhs; reduce
  exact ⟨_, h.symm⟩
def C171 : T 171 := mkRun 3 (k171 C172 C173) (by decide) (g171.1 (theOps Tryz.prog) C172 C173) (by rw [g171.2])
def A171 : U := ⟨171, C171⟩
def s174 : S := .seq (.reg [mK 2 (.b false)]) (.seq (.reg [mK 2 (.b false)]) .ret)
def r174 : List ARes := [.t 2]
theorem k174 : compFn Tryz.prog 174 = some ⟨3, (s174).er, r174⟩ := by kernel_rfl
abbrev q174 (O : Ops Tryz.prog) := curF 1 (sfn O (s174) r174)
def g174 : { g // g = q174 } := by
  have h : q174 = q174 := rfl
  conv at h => rhs; reduce
  exact ⟨_, h.symm⟩
def C174 : T 174 := mkRun 1 (k174) (by decide) (g174.1 (theOps Tryz.prog)) (by rw [g174.2])
def A174 : U := ⟨174, C174⟩
def s175 (c172 : T 172) : S := .seq (.reg [mK 2 (.b false)]) (.seq (.reg [mM 3 0, mN 4 (.bslice 1 1 [.s []] [(0, (1, 3))]), mQ 5 172 [4] c172, mB .neq 6 5 (.c 0), mM 2 6]) .ret)
def r175 : List ARes := [.t 2]
theorem k175 (c172 : T 172) : compFn Tryz.prog 175 = some ⟨7, (s175 c172).er, r175⟩ := by kernel_rfl
abbrev q175 (O : Ops Tryz.prog) (c172 : T 172) := curF 1 (sfn O (s175 c172) r175)
def g175 : { g // g = q175 } := by
  have h : q175 = q175 := rfl
  conv at h => rhs; reduce
  exact ⟨_, h.symm⟩
def C175 : T 175 := mkRun 1 (k175 C172) (by decide) (g175.1 (theOps Tryz.prog) C172) (by rw [g175.2])
def A175 : U := ⟨175, C175⟩
def s244 : S := .seq (.reg [mK 2 (.b false)]) (.seq (.reg [mM 3 0, mU 4 (.lenS 3), mB .lss 5 4 (.c 20), mM 2 5]) .ret)
def r244 : List ARes := [.t 2]
theorem k244 : compFn Tryz.prog 244 = some ⟨6, (s244).er, r244⟩ := by kernel_rfl
abbrev q244 (O : Ops Tryz.prog) := curF 1 (sfn O (s244) r244)
def g244 : { g // g = q244 } := by
  have h : q244 = q244 := rfl
  conv at h => rhs; reduce
  exact ⟨_, h.symm⟩
def C244 : T 244 := mkRun 1 (k244) (by decide) (g244.1 (theOps Tryz.prog)) (by rw [g244.2])
def A244 : U := ⟨244, C244⟩
def s245 (c164 : T 164) : S := .seq (.reg [mK 2 (.b false)]) (.seq (.reg [mM 3 0, mU 4 (.idxStr 3 (.c 0)), mB .shr 5 4 (.c (.i .u64 4)), mB .neq 6 5 (.c (.i .u8 4)), mM 7 6, (mM 8 0).g 7 false, (mQ 9 164 [8] c164).g 7 false, (mB .lss 10 9 (.c 20)).g 7 false, mU 11 (.pick 7 (.c (.b true)) 10), mM 2 11]) .ret)
def r245 : List ARes := [.t 2]
theorem k245 (c164 : T 164) : compFn Tryz.prog 245 = some ⟨12, (s245 c164).er, r245⟩ := by kernel_rfl
abbrev q245 (O : Ops Tryz.prog) (c164 : T 164) := curF 1 (sfn O (s245 c164) r245)
def g245 : { g // g = q245 } := by
  have h : q245 = q245 := rfl
  conv at h => rhs; reduce
  exact ⟨_, h.symm⟩
def C245 : T 245 := mkRun 1 (k245 C164) (by decide) (g245.1 (theOps Tryz.prog) C164) (by rw [g245.2])
def A245 : U := ⟨245, C245⟩
def s246 (c164 : T 164) : S := .seq (.reg [mK 2 (.b false)]) (.seq (.reg [mM 3 0, mU 4 (.lenS 3), mM 5 0, mQ 6 164 [5] c164, mB .lss 7 4 6, mM 2 7]) .ret)
def r246 : List ARes := [.t 2]
theorem k246 (c164 : T 164) : compFn Tryz.prog 246 = some ⟨8, (s246 c164).er, r246⟩ := by kernel_rfl
abbrev q246 (O : Ops Tryz.prog) (c164 : T 164) := curF 1 (sfn O (s246 c164) r246)
def g246 : { g // g = q246 } := by
  have h : q246 = q246 := rfl
  conv at h => rhs; reduce
  exact ⟨_, h.symm⟩
def C246 : T 246 := mkRun 1 (k246 C164) (by decide) (g246.1 (theOps Tryz.prog) C164) (by rw [g246.2])
def A246 : U := ⟨246, C246⟩
def s247 (c164 : T 164) (c165 : T 165) : S := .seq (.reg [mK 2 (.b false)]) (.seq (.reg [mM 3 0, mQ 4 165 [3] c165, mM 5 0, mQ 6 164 [5] c164, mB .lss 7 4 6, mM 2 7]) .ret)
def r247 : List ARes := [.t 2]
theorem k247 (c164 : T 164) (c165 : T 165) : compFn Tryz.prog 247 = some ⟨8, (s247 c164 c165).er, r247⟩ := by kernel_rfl
abbrev q247 (O : Ops Tryz.prog) (c164 : T 164) (c165 : T 165) := curF 1 (sfn O (s247 c164 c165) r247)
def g247 : { g // g = q247 } := by
  have h : q247 = q247 := rfl
  conv at h => rhs; reduce
  exact ⟨_, h.symm⟩
def C247 : T 247 := mkRun 1 (k247 C164 C165) (by decide) (g247.1 (theOps Tryz.prog) C164 C165) (by rw [g247.2])
def A247 : U := ⟨247, C247⟩
def s248 (c165 : T 165) : S := .seq (.reg [mK 2 (.b false)]) (.seq (.reg [mM 3 0, mU 4 (.lenS 3), mM 5 0, mQ 6 165 [5] c165, mB .lss 7 4 6, mM 2 7]) .ret)
def r248 : List ARes := [.t 2]
theorem k248 (c165 : T 165) : compFn Tryz.prog 248 = some ⟨8, (s248 c165).er, r248⟩ := by kernel_rfl
abbrev q248 (O : Ops Tryz.prog) (c165 : T 165) := curF 1 (sfn O (s248 c165) r248)
def g248 : { g // g = q248 } := by
  have h : q248 = q248 := rfl
  conv at h => rhs; reduce
  exact ⟨_, h.symm⟩
def C248 : T 248 := mkRun 1 (k248 C165) (by decide) (g248.1 (theOps Tryz.prog) C165) (by rw [g248.2])
def A248 : U := ⟨248, C248⟩
def s249 : S := .seq (.reg [mK 2 (.b false)]) (.seq (.reg [mM 3 0, mU 4 (.idxStr 3 (.c 6)), mB .shr 5 4 (.c (.i .u64 7)), mB .eql 6 5 (.c (.i .u8 1)), mM 2 6]) .ret)
def r249 : List ARes := [.t 2]
theorem k249 : compFn Tryz.prog 249 = some ⟨7, (s249).er, r249⟩ := by kernel_rfl
abbrev q249 (O : Ops Tryz.prog) := curF 1 (sfn O (s249) r249)
def g249 : { g // g = q249 } := by
  have h : q249 = q249 := rfl
  conv at h => rhs; reduce
  exact ⟨_, h.symm⟩
def C249 : T 249 := mkRun 1 (k249) (by decide) (g249.1 (theOps Tryz.prog)) (by rw [g249.2])
def A249 : U := ⟨249, C249⟩
def s250 (c164 : T 164) (c165 : T 165) : S := .seq (.reg [mK 2 (.b false)]) (.seq (.reg [mM 3 0, mQ 4 165 [3] c165, mM 5 0, mQ 6 164 [5] c164, mB .sub 7 4 6, mB .gtr 8 7 (.c 2000), mM 2 8]) .ret)
def r250 : List ARes := [.t 2]
theorem k250 (c164 : T 164) (c165 : T 165) : compFn Tryz.prog 250 = some ⟨9, (s250 c164 c165).er, r250⟩ := by kernel_rfl
abbrev q250 (O : Ops Tryz.prog) (c164 : T 164) (c165 : T 165) := curF 1 (sfn O (s250 c164 c165) r250)
def g250 : { g // g = q250 } := by
  have h : q250 = q250 := rfl
  conv at h => rhs; reduce
  exact ⟨_, h.symm⟩
def C250 : T 250 := mkRun 1 (k250 C164 C165) (by decide) (g250.1 (theOps Tryz.prog) C164 C165) (by rw [g250.2])
def A250 : U := ⟨250, C250⟩
def s251 (c164 : T 164) (c172 : T 172) : S := .seq (.reg [mK 2 (.b false)]) (.seq (.reg [mM 3 0, mM 4 0, mQ 5 164 [4] c164, mU 6 (.slStr 3 none (some 5)), mN 7 (.bslice 1 1 [.s []] [(0, (1, 6))]), mQ 8 172 [7] c172, mB .neq 9 8 (.c 0), mM 2 9]) .ret)
def r251 : List ARes := [.t 2]
theorem k251 (c164 : T 164) (c172 : T 172) : compFn Tryz.prog 251 = some ⟨10, (s251 c164 c172).er, r251⟩ := by kernel_rfl
abbrev q251 (O : Ops Tryz.prog) (c164 : T 164) (c172 : T 172) := curF 1 (sfn O (s251 c164 c172) r251)
def g251 : { g // g = q251 } := by
  have h : q251 = q251 := rfl
  conv at h => rhs; reduce
  exact ⟨_, h.symm⟩
def C251 : T 251 := mkRun 1 (k251 C164 C172) (by decide) (g251.1 (theOps Tryz.prog) C164 C172) (by rw [g251.2])
def A251 : U := ⟨251, C251⟩
def s101 (c162 : T 162) (c163 : T 163) (c164 : T 164) (c165 : T 165) (a170 : U) (a171 : U) (a174 : U) (a175 : U) (a244 : U) (a245 : U) (a246 : U) (a247 : U) (a248 : U) (a249 : U) (a250 : U) (a251 : U) : S := .seq (.reg [mN 2 (.newz [0, 0, .b false, .b false, 0, 0, 0, .i .u32 0, .i .u32 0, .s []]), mK 3 (.s []), mK 4 0]) (.join [0, 2] [] (.join [0, 2, 9, 10, 11] [] (.reg [mQ 9 163 [] c163, mU 10 (.lenSl 9), mK 11 0]) (.block 0 (.loop [11] [0, 2, 9, 10] (.seq (.reg [mB .lss 12 11 10]) (.seq (.cond 12 .skip (.exit 0)) (.seq (.block 1 (.join [0, 2, 6, 9, 10, 11] [] (.reg [mU 13 (.idxAddrSl 2 9 11), mR 14 (.ldN 2 13), mN 6 (.newz [.nf, 0]), mZ (.st 2 6 14)]) (.seq (.reg [mF 0 15 6, mL 16 15, mM 17 0, mV 18 16 [17] [a170, a171, a174, a175, a244, a245, a246, a247, a248, a249, a250, a251] []]) (.cond 18 (.seq (.draw 0 [⟨[], [dP 0 19 (.build [0, 0, .b false, .b false, 0, 0, 0, .i .u32 0, .i .u32 0, .s []] []) 0, dP 1 20 (.fieldAddr 1 6) 1, dR 2 21 (.ld1 20) 1], some (mZ (.st 10 2 19))⟩, ⟨[⟨some 21, .read (.ld1 20), none⟩], [dP 4 3 (.mv (.c (.s []))) 1, dP 5 4 (.mv 21) 1], none⟩]) .ret) .skip)))) (.reg [mB .add 22 11 (.c 1), mM 11 22]))))))) (.join [0, 2, 7] [] (.reg [mM 23 0, mU 24 (.slStr 23 (some (.c 6)) (some (.c 8))), mQ 25 162 [24] c162, mM 7 25]) (.join [0, 2, 8] [] (.draw 36 [⟨[], [dP 0 26 (.mv 0) 4, dP 1 27 (.idxStr 26 (.c 1)) 4, dP 2 28 (.conv .i64 27) 4, dP 3 29 (.mv 0) 0, dP 4 30 (.slStr 29 (some (.c 4)) (some (.c 6))) 0, dP 6 32 (.mv 7) 4, dP 7 33 (.bin .and 32 (.c 8192)) 4, dP 8 34 (.bin .neq 33 (.c 0)) 4, dP 9 35 (.mv 7) 4, dP 10 36 (.bin .and 35 (.c 16384)) 4, dP 11 37 (.bin .neq 36 (.c 0)) 4, dP 12 38 (.mv 7) 4, dP 13 39 (.bin .and 38 (.c 8191)) 4, dP 14 40 (.bin .mul 39 (.c 8)) 4, dP 15 41 (.mv 0) 4, dP 16 42 (.idxStr 41 (.c 8)) 4, dP 17 43 (.conv .i64 42) 4, dP 18 44 (.mv 0) 4, dP 19 45 (.idxStr 44 (.c 9)) 4, dP 20 46 (.conv .i64 45) 4, dP 21 47 (.mv 0) 1, dP 22 48 (.slStr 47 (some (.c 12)) (some (.c 16))) 1, dP 25 51 (.mv 0) 2, dP 26 52 (.slStr 51 (some (.c 16)) (some (.c 20))) 2, dP 29 55 (.mv 0) 4, dP 30 56 (.mv 0) 3, ⟨34, ⟨some 8, .alloc (.newz [0, 0, .b false, .b false, 0, 0, 0, .i .u32 0, .i .u32 0, .s []]), none⟩, 4⟩], some (mQ 31 162 [30] c162)⟩, ⟨[], [], some (mQ 49 162 [48] c162)⟩, ⟨[], [dP 24 50 (.conv .u32 49) 4], some (mQ 53 162 [52] c162)⟩, ⟨[], [dP 28 54 (.conv .u32 53) 4], some (mQ 57 164 [56] c164)⟩, ⟨[], [dP 32 58 (.slStr 55 (some (.c 20)) (some 57)) 4, dP 33 59 (.build [0, 0, .b false, .b false, 0, 0, 0, .i .u32 0, .i .u32 0, .s []] [(0, (1, 28)), (1, (1, 31)), (2, (1, 34)), (3, (1, 37)), (4, (1, 40)), (5, (1, 43)), (6, (1, 46)), (7, (1, 50)), (8, (1, 54)), (9, (1, 58))]) 4], some (mZ (.st 10 8 59))⟩, ⟨[], [], none⟩]) (.seq (.draw 0 [⟨[], [dR 0 60 (.ldN 10 8) 2, dP 1 61 (.mv 0) 3, dP 2 62 (.mv 0) 0, dP 4 64 (.mv 0) 1], some (mQ 63 164 [62] c164)⟩, ⟨[⟨some 60, .read (.ldN 10 8), none⟩], [], some (mQ 65 165 [64] c165)⟩, ⟨[⟨some 60, .read (.ldN 10 8), none⟩], [dP 6 66 (.slStr 61 (some 63) (some 65)) 3], some (mZ (.st 10 2 60))⟩, ⟨[], [dP 8 3 (.mv 66) 3, dP 9 4 (.mv (.c 0)) 3], none⟩]) .ret))))
def r101 : List ARes := [.c true 10 2, .t 3, .t 4]
theorem k101 (c162 : T 162) (c163 : T 163) (c164 : T 164) (c165 : T 165) (a170 : U) (a171 : U) (a174 : U) (a175 : U) (a244 : U) (a245 : U) (a246 : U) (a247 : U) (a248 : U) (a249 : U) (a250 : U) (a251 : U) : compFn Tryz.prog 101 = some ⟨67, (s101 c162 c163 c164 c165 a170 a171 a174 a175 a244 a245 a246 a247 a248 a249 a250 a251).er, r101⟩ := by kernel_rfl
abbrev q101 (O : Ops Tryz.prog) (c162 : T 162) (c163 : T 163) (c164 : T 164) (c165 : T 165) (a170 : U) (a171 : U) (a174 : U) (a175 : U) (a244 : U) (a245 : U) (a246 : U) (a247 : U) (a248 : U) (a249 : U) (a250 : U) (a251 : U) := curF 1 (sfn O (s101 c162 c163 c164 c165 a170 a171 a174 a175 a244 a245 a246 a247 a248 a249 a250 a251) r101)
def g101 : { g // g = q101 } := by
  have h : q101 = q101 := rfl
  conv at h => rhs; reduce
  exact ⟨_, h.symm⟩
def C101 : T 101 := mkRun 1 (k101 C162 C163 C164 C165 A170 A171 A174 A175 A244 A245 A246 A247 A248 A249 A250 A251) (by decide) (g101.1 (theOps Tryz.prog) C162 C163 C164 C165 A170 A171 A174 A175 A244 A245 A246 A247 A248 A249 A250 A251) (by rw [g101.2])
def s50 (c98 : T 98) (c101 : T 101) : S := .seq (.reg [mK 4 (.b false)]) (.join [0, 1, 5, 6, 7] [] (.reg [mM 9 1, mU 10 (.nilCheck 9), mF 25 11 10, mL 12 11, mQ 13 101 [12] c101, mM 8 13, mU 14 (.extract 0 8), mU 15 (.extract 1 8), mU 16 (.extract 2 8), mN 5 (.newz [0, 0, .b false, .b false, 0, 0, 0, .i .u32 0, .i .u32 0, .s []]), mZ (.st 10 5 14), mM 6 15, mM 7 16]) (.seq (.seq (.reg [mM 17 7, mB .neq 18 17 (.c 0)]) (.cond 18 (.seq (.reg [mM 19 0, mU 20 (.nilCheck 19), mF 15 21 20, mF 2 22 21, mQ 23 98 [22] c98, mM 4 23]) .ret) .skip)) (.seq (.reg [mM 24 1, mM 25 1, mR 26 (.ldN 10 5), mM 27 6, mU 28 (.nilCheck 24), mF 15 29 28, mZ (.st 10 29 26), mU 30 (.nilCheck 25), mF 25 31 30, mZ (.st 1 31 27)]) (.seq (.reg [mK 4 (.b true)]) .ret))))
def r50 : List ARes := [.t 4]
theorem k50 (c98 : T 98) (c101 : T 101) : compFn Tryz.prog 50 = some ⟨32, (s50 c98 c101).er, r50⟩ := by kernel_rfl
abbrev q50 (O : Ops Tryz.prog) (c98 : T 98) (c101 : T 101) := curF 2 (sfn O (s50 c98 c101) r50)
def g50 : { g // g = q50 } := by
  have h : q50 = q50 := rfl
  conv at h => rhs; reduce
  exact ⟨_, h.symm⟩
def C50 : T 50 := mkRun 2 (k50 C98 C101) (by decide) (g50.1 (theOps Tryz.prog) C98 C101) (by rw [g50.2])
def A50 : U := ⟨50, C50⟩
def s166 : S := .join [0, 7] [] (.reg [mM 3 0, mU 4 (.nilCheck 3), mF 0 5 4, mL 6 5, mY 7 (.rangeM 6)]) (.block 0 (.loop [] [0, 7] (.join [0, 7, 9] [] (.reg [mY 8 (.nextM 7), mU 9 (.extract 0 8)]) (.seq (.cond 9 .skip (.exit 0)) (.block 1 (.seq (.reg [mY 10 (.entryM 7), mU 11 (.extract 0 10), mM 2 11]) (.seq (.reg [mM 12 2, mM 13 0, mU 14 (.nilCheck 13), mF 1 15 14, mL 16 15, mB .geq 17 12 16]) (.cond 17 (.reg [mM 18 0, mU 19 (.nilCheck 18), mF 0 20 19, mL 21 20, mM 22 2, mZ (.del (.one .i) 21 22)]) .skip))))))))
def r166 : List ARes := []
theorem k166 : compFn Tryz.prog 166 = some ⟨23, (s166).er, r166⟩ := by kernel_rfl
abbrev q166 (O : Ops Tryz.prog) := curF 1 (sfn O (s166) r166)
def g166 : { g // g = q166 } := by
  have h : q166 = q166 := rfl
  conv at h => rhs; reduce
  exact ⟨_, h.symm⟩
def C166 : T 166 := mkRun 1 (k166) (by decide) (g166.1 (theOps Tryz.prog)) (by rw [g166.2])
def s167 : S := .seq (.reg [mK 2 (.s []), mK 3 (.b false)]) (.join [0] [] (.seq (.draw 0 [⟨[], [dP 0 6 (.mv 0) 0, dP 1 7 (.nilCheck 6) 0, dP 2 8 (.fieldAddr 1 7) 0, dR 3 9 (.ld1 8) 0, dP 4 10 (.bin .eql 9 (.c 0)) 0, dP 5 11 (.mv 10) 0, ⟨6, ⟨some 12, .pure (.mv 0), some (11, false)⟩, 0⟩, ⟨7, ⟨some 13, .pure (.nilCheck 12), some (11, false)⟩, 0⟩, ⟨8, ⟨some 14, .pure (.fieldAddr 0 13), some (11, false)⟩, 0⟩, ⟨9, ⟨some 15, .read (.ld1 14), some (11, false)⟩, 0⟩, ⟨10, ⟨some 16, .read (.lenM 15), some (11, false)⟩, 0⟩, ⟨11, ⟨some 17, .pure (.mv 0), some (11, false)⟩, 0⟩, ⟨12, ⟨some 18, .pure (.nilCheck 17), some (11, false)⟩, 0⟩, ⟨13, ⟨some 19, .pure (.fieldAddr 1 18), some (11, false)⟩, 0⟩, ⟨14, ⟨some 20, .read (.ld1 19), some (11, false)⟩, 0⟩, ⟨15, ⟨some 21, .pure (.bin .lss 16 20), some (11, false)⟩, 0⟩, dP 16 22 (.pick 11 (.c (.b true)) 21) 0], none⟩]) (.cond 22 (.seq (.reg [mK 2 (.s []), mK 3 (.b false)]) .ret) .skip)) (.join [0, 4] [] (.reg [mM 23 0, mU 24 (.nilCheck 23), mF 1 25 24, mL 26 25, mN 27 (.mkslice 1 1 [.i .u8 0] 26 26), mM 4 27]) (.seq (.seq (.reg [mM 28 4, mU 29 (.lenSl 28), mK 30 0]) (.block 0 (.loop [30] [0, 4, 29] (.seq (.reg [mB .lss 31 30 29]) (.seq (.cond 31 .skip (.exit 0)) (.seq (.block 1 (.seq (.reg [mM 32 30, mM 5 32]) (.reg [mM 33 4, mM 34 5, mM 35 0, mU 36 (.nilCheck 35), mF 0 37 36, mL 38 37, mM 39 5, mR 40 (.lookup (.one .i) (.i .u8 0) false 38 39), mU 41 (.idxAddrSl 1 33 34), mZ (.st 1 41 40)]))) (.reg [mB .add 42 30 (.c 1), mM 30 42]))))))) (.seq (.reg [mM 43 4, mR 44 (.b2s 43), mM 2 44, mK 3 (.b true)]) .ret))))
def r167 : List ARes := [.t 2, .t 3]
theorem k167 : compFn Tryz.prog 167 = some ⟨45, (s167).er, r167⟩ := by kernel_rfl
abbrev q167 (O : Ops Tryz.prog) := curF 1 (sfn O (s167) r167)
def g167 : { g // g = q167 } := by
  have h : q167 = q167 := rfl
  conv at h => rhs; reduce
  exact ⟨_, h.symm⟩
def C167 : T 167 := mkRun 1 (k167) (by decide) (g167.1 (theOps Tryz.prog)) (by rw [g167.2])
def s102 (c166 : T 166) (c167 : T 167) : S := .seq (.reg [mN 4 (.box 1), mK 6 (.s []), mK 7 (.b false), mK 8 0]) (.join [0, 2, 4] [] (.seq (.reg [mF 2 15 4, mL 16 15, mU 17 (.un .not 16), mM 18 17, (mF 4 19 4).g 18 true, (mL 20 19).g 18 true, (mB .leq 21 20 (.c 0)).g 18 true, mU 22 (.pick 18 21 (.c (.b false)))]) (.cond 22 (.seq (.reg [mM 23 2, mM 6 23, mK 7 (.b true), mK 8 0]) .ret) .skip)) (.join [0, 2, 4, 9] [] (.reg [mF 7 24 4, mL 25 24, mF 8 26 4, mL 27 26, mF 6 28 4, mL 29 28, mF 1 30 4, mL 31 30, mU 32 (.build [.i .u32 0, .i .u32 0, 0, 0] [(0, (1, 25)), (1, (1, 27)), (2, (1, 29)), (3, (1, 31))]), mN 9 (.newz [.i .u32 0, .i .u32 0, 0, 0]), mZ (.st 4 9 32)]) (.join [0, 2, 4, 9, 10] [] (.draw 0 [⟨[], [dP 0 33 (.mv 0) 0, dP 1 34 (.nilCheck 33) 0, dP 2 35 (.fieldAddr 2 34) 0, dR 3 36 (.ld1 35) 0, dR 4 37 (.ldN 4 9) 0, dR 5 38 (.lookup (.flat [(0, .i), (1, .i), (2, .i), (3, .i)]) (.p none) false 36 37) 0, dP 6 10 (.mv 38) 0], none⟩]) (.join [0, 2, 4, 9, 10] [] (.block 0 (.join [0, 2, 4, 9, 10, 39] [] (.reg [mM 40 2, mB .eql 41 40 (.c (.s [])), mM 42 41, (mF 2 43 4).g 42 false, (mL 44 43).g 42 false, (mM 45 44).g 42 false, (mM 46 2).g 45 true, (mU 47 (.lenS 46)).g 45 true, (mB .rem 48 47 (.c 8)).g 45 true, (mB .neq 49 48 (.c 0)).g 45 true, (mU 50 (.pick 45 49 (.c (.b false)))).g 42 false, mU 51 (.pick 42 (.c (.b true)) 50), mM 52 51, (mF 4 53 4).g 52 false, (mL 54 53).g 52 false, (mB .lss 55 54 (.c 0)).g 52 false, mU 56 (.pick 52 (.c (.b true)) 55), mM 39 56]) (.cond 39 (.seq (.reg [mK 6 (.s []), mK 7 (.b false), mK 8 3]) .ret) (.join [0, 2, 4, 9, 10, 57] [] (.reg [mM 58 2, mU 59 (.lenS 58), mB .gtr 60 59 (.c 2000), mM 61 60, (mF 4 62 4).g 61 false, (mL 63 62).g 61 false, (mM 64 2).g 61 false, (mU 65 (.lenS 64)).g 61 false, (mB .sub 66 (.c 2000) 65).g 61 false, (mB .gtr 67 63 66).g 61 false, mU 68 (.pick 61 (.c (.b true)) 67), mM 57 68]) (.cond 57 (.seq (.draw 0 [⟨[], [dP 0 69 (.mv 0) 0, dP 1 70 (.nilCheck 69) 0, dP 2 71 (.fieldAddr 2 70) 0, dR 3 72 (.ld1 71) 0, dR 4 73 (.ldN 4 9) 0], some (mZ (.del (.flat [(0, .i), (1, .i), (2, .i), (3, .i)]) 72 73))⟩, ⟨[], [], none⟩]) (.seq (.reg [mK 6 (.s []), mK 7 (.b false), mK 8 5]) .ret)) (.join [0, 2, 4, 9, 10, 74] [] (.draw 0 [⟨[], [dP 0 75 (.mv 10) 0, dR 1 76 (.peq false 75 (.c (.p none))) 0, dP 2 77 (.mv 76) 0, ⟨3, ⟨some 78, .pure (.mv 0), some (77, true)⟩, 0⟩, ⟨4, ⟨some 79, .pure (.nilCheck 78), some (77, true)⟩, 0⟩, ⟨5, ⟨some 80, .pure (.fieldAddr 2 79), some (77, true)⟩, 0⟩, ⟨6, ⟨some 81, .read (.ld1 80), some (77, true)⟩, 0⟩, ⟨7, ⟨some 82, .read (.lenM 81), some (77, true)⟩, 0⟩, ⟨8, ⟨some 83, .pure (.mv 0), some (77, true)⟩, 0⟩, ⟨9, ⟨some 84, .pure (.nilCheck 83), some (77, true)⟩, 0⟩, ⟨10, ⟨some 85, .pure (.fieldAddr 0 84), some (77, true)⟩, 0⟩, ⟨11, ⟨some 86, .read (.ld1 85), some (77, true)⟩, 0⟩, ⟨12, ⟨some 87, .pure (.bin .geq 82 86), some (77, true)⟩, 0⟩, dP 13 88 (.pick 77 87 (.c (.b false))) 0, dP 14 74 (.mv 88) 0], none⟩]) (.cond 74 (.seq (.reg [mK 6 (.s []), mK 7 (.b false), mK 8 10]) .ret) (.seq (.reg [mM 90 10, mR 91 (.peq false 90 (.c (.p none))), mM 89 91]) (.cond 89 (.seq (.reg [mN 92 .mkmap, mU 93 (.build [.m none, 0, 0] [(0, (1, 92))]), mN 94 (.box 93), mM 10 94]) (.draw 0 [⟨[], [dP 0 95 (.mv 0) 0, dP 1 96 (.nilCheck 95) 0, dP 2 97 (.fieldAddr 2 96) 0, dR 3 98 (.ld1 97) 0, dR 4 99 (.ldN 4 9) 0, dP 5 100 (.mv 10) 0], some (mZ (.mapUpd (.flat [(0, .i), (1, .i), (2, .i), (3, .i)]) 98 99 100))⟩, ⟨[], [], none⟩])) .skip))))))))) (.join [0, 2, 4, 9, 10] [] (.seq (.reg [mF 2 101 4, mL 102 101, mU 103 (.un .not 102), mM 104 103, (mM 105 10).g 104 true, (mU 106 (.nilCheck 105)).g 104 true, (mF 1 107 106).g 104 true, (mL 108 107).g 104 true, (mB .eql 109 108 (.c 0)).g 104 true, mU 110 (.pick 104 109 (.c (.b false)))]) (.cond 110 (.seq (.reg [mM 111 10, mF 4 112 4, mL 113 112, mM 114 2, mU 115 (.lenS 114), mB .add 116 113 115, mU 117 (.nilCheck 111), mF 1 118 117, mZ (.st 1 118 116)]) (.reg [mM 119 10, mQ 120 166 [119] c166])) .skip)) (.join [0, 9, 10] [] (.seq (.reg [mM 121 2, mU 122 (.lenS 121), mK 123 0]) (.block 1 (.loop [123] [0, 2, 4, 9, 10, 122] (.seq (.reg [mB .lss 124 123 122]) (.seq (.cond 124 .skip (.exit 1)) (.join [0, 2, 4, 9, 10, 122, 123] [] (.block 2 (.seq (.reg [mM 125 123, mM 11 125]) (.join [0, 2, 4, 9, 10, 11, 12, 122, 123] [] (.reg [mF 4 126 4, mL 127 126, mM 128 11, mB .add 129 127 128, mM 12 129]) (.join [0, 2, 4, 9, 10, 11, 12, 14, 122, 123] [] (.reg [mM 131 10, mU 132 (.nilCheck 131), mF 0 133 132, mL 134 133, mM 135 12, mR 136 (.lookup (.one .i) (.i .u8 0) true 134 135), mM 130 136, mU 137 (.extract 0 130), mU 138 (.extract 1 130), mM 13 137, mM 14 138]) (.join [0, 2, 4, 9, 10, 11, 12, 122, 123, 155] [] (.reg [mM 139 14, mU 140 (.un .not 139), mM 141 140, (mM 142 10).g 141 true, (mU 143 (.nilCheck 142)).g 141 true, (mF 1 144 143).g 141 true, (mL 145 144).g 141 true, (mB .eql 146 145 (.c 0)).g 141 true, (mM 147 146).g 141 true, (mM 148 12).g 147 false, (mM 149 10).g 147 false, (mU 150 (.nilCheck 149)).g 147 false, (mF 1 151 150).g 147 false, (mL 152 151).g 147 false, (mB .lss 153 148 152).g 147 false, (mU 154 (.pick 147 (.c (.b true)) 153)).g 141 true, mU 155 (.pick 141 154 (.c (.b false)))]) (.cond 155 (.draw 0 [⟨[], [dP 0 156 (.mv 10) 0, dP 1 157 (.nilCheck 156) 0, dP 2 158 (.fieldAddr 0 157) 0, dR 3 159 (.ld1 158) 0, dP 4 160 (.mv 12) 0, dP 5 161 (.mv 2) 0, dP 6 162 (.mv 11) 0, dP 7 163 (.idxStr 161 162) 0], some (mZ (.mapUpd (.one .i) 159 160 163))⟩, ⟨[], [], none⟩]) .skip)))))) (.reg [mB .add 164 123 (.c 1), mM 123 164]))))))) (.join [6, 7] [] (.seq (.reg [mM 166 10, mQ 167 167 [166] c167, mM 165 167, mU 168 (.extract 0 165), mU 169 (.extract 1 165), mM 6 168, mM 7 169]) (.seq (.reg [mM 170 7]) (.cond 170 (.draw 0 [⟨[], [dP 0 171 (.mv 0) 0, dP 1 172 (.nilCheck 171) 0, dP 2 173 (.fieldAddr 2 172) 0, dR 3 174 (.ld1 173) 0, dR 4 175 (.ldN 4 9) 0], some (mZ (.del (.flat [(0, .i), (1, .i), (2, .i), (3, .i)]) 174 175))⟩, ⟨[], [], none⟩]) .skip))) (.seq (.reg [mM 176 6, mM 177 7, mM 6 176, mM 7 177, mK 8 0]) .ret))))))))
def r102 : List ARes := [.t 6, .t 7, .t 8]
theorem k102 (c166 : T 166) (c167 : T 167) : compFn Tryz.prog 102 = some ⟨178, (s102 c166 c167).er, r102⟩ := by kernel_rfl
abbrev q102 (O : Ops Tryz.prog) (c166 : T 166) (c167 : T 167) := curF 3 (sfn O (s102 c166 c167) r102)
def g102 : { g // g = q102 } := by
  have h : q102 = q102 := rfl
  conv at h => rhs; reduce
  exact ⟨_, h.symm⟩
def C102 : T 102 := mkRun 3 (k102 C166 C167) (by decide) (g102.1 (theOps Tryz.prog) C166 C167) (by rw [g102.2])
def s51 (c98 : T 98) (c102 : T 102) : S := .seq (.reg [mK 4 (.b false)]) (.join [0, 1] [] (.seq (.reg [mM 8 1, mU 9 (.nilCheck 8), mF 15 10 9, mF 2 11 10, mL 12 11, mU 13 (.un .not 12), mM 14 13, (mM 15 1).g 14 true, (mU 16 (.nilCheck 15)).g 14 true, (mF 15 17 16).g 14 true, (mF 4 18 17).g 14 true, (mL 19 18).g 14 true, (mB .eql 20 19 (.c 0)).g 14 true, mU 21 (.pick 14 20 (.c (.b false)))]) (.cond 21 (.seq (.reg [mK 4 (.b true)]) .ret) .skip)) (.join [0, 1] [] (.reg [mM 22 0, mU 23 (.nilCheck 22), mF 15 24 23, mF 12 25 24, mL 26 25, mB .add 27 26 (.c 1), mU 28 (.nilCheck 22), mF 15 29 28, mF 12 30 29, mZ (.st 1 30 27)]) (.join [0, 1, 5, 6, 7] [] (.draw 0 [⟨[], [dP 0 32 (.mv 0) 0, dP 1 33 (.nilCheck 32) 0, dP 2 34 (.fieldAddr 11 33) 0, dR 3 35 (.ld1 34) 0, dP 4 36 (.mv 1) 0, dP 5 37 (.nilCheck 36) 0, dP 6 38 (.fieldAddr 15 37) 0, dR 7 39 (.ldN 10 38) 0, dP 8 40 (.mv 1) 0, dP 9 41 (.nilCheck 40) 0, dP 10 42 (.fieldAddr 25 41) 0, dR 11 43 (.ld1 42) 0], some (mQ 44 102 [35, 39, 43] c102)⟩, ⟨[], [dP 13 31 (.mv 44) 1, dP 14 45 (.extract 0 31) 1, dP 15 46 (.extract 1 31) 1, dP 16 47 (.extract 2 31) 1, dP 17 5 (.mv 45) 1, dP 18 6 (.mv 46) 1, dP 19 7 (.mv 47) 1], none⟩]) (.join [1, 5, 6] [] (.block 0 (.seq (.reg [mM 49 7, mB .eql 50 49 (.c 10), mM 48 50]) (.cond 48 (.seq (.reg [mM 51 0, mU 52 (.nilCheck 51), mF 15 53 52, mF 8 54 53, mQ 55 98 [54] c98, mM 4 55]) .ret) (.seq (.reg [mM 57 7, mB .neq 58 57 (.c 0), mM 56 58]) (.cond 56 (.seq (.reg [mM 59 0, mU 60 (.nilCheck 59), mF 15 61 60, mF 2 62 61, mQ 63 98 [62] c98, mM 4 63]) .ret) .skip))))) (.seq (.reg [mM 64 1, mM 65 1, mM 66 1, mM 67 5, mU 68 (.nilCheck 64), mF 25 69 68, mZ (.st 1 69 67), mU 70 (.nilCheck 65), mF 15 71 70, mF 2 72 71, mZ (.st 1 72 (.c (.b false))), mU 73 (.nilCheck 66), mF 15 74 73, mF 4 75 74, mZ (.st 1 75 (.c 0))]) (.seq (.reg [mM 76 6, mM 4 76]) .ret))))))
def r51 : List ARes := [.t 4]
theorem k51 (c98 : T 98) (c102 : T 102) : compFn Tryz.prog 51 = some ⟨77, (s51 c98 c102).er, r51⟩ := by kernel_rfl
abbrev q51 (O : Ops Tryz.prog) (c98 : T 98) (c102 : T 102) := curF 2 (sfn O (s51 c98 c102) r51)
def g51 : { g // g = q51 } := by
  have h : q51 = q51 := rfl
  conv at h => rhs; reduce
  exact ⟨_, h.symm⟩
def C51 : T 51 := mkRun 2 (k51 C98 C102) (by decide) (g51.1 (theOps Tryz.prog) C98 C102) (by rw [g51.2])
def A51 : U := ⟨51, C51⟩
def s252 (c254 : T 254) : S := .seq (.reg [mN 2 (.box 0), mK 4 (.s [])]) (.seq (.draw 0 [⟨[], [dP 0 5 (.fieldAddr 7 2) 0, dR 1 6 (.ld1 5) 0, dP 2 7 (.conv .i64 6) 0, dP 4 9 (.fieldAddr 8 2) 1, dR 5 10 (.ld1 9) 1, dP 6 11 (.conv .i64 10) 1, dP 12 17 (.mv 1) 3], some (mQ 8 254 [7, .c 4] c254)⟩, ⟨[⟨some 10, .read (.ld1 9), none⟩], [], some (mQ 12 254 [11, .c 4] c254)⟩, ⟨[], [dP 8 13 (.bin .add 8 12) 4, dP 9 14 (.bin .add 13 (.c (.s [0]))) 4], some (mQ 15 254 [.c 6, .c 1] c254)⟩, ⟨[], [dP 11 16 (.bin .add 14 15) 4], some (mQ 18 254 [17, .c 2] c254)⟩, ⟨[], [dP 14 19 (.bin .add 16 18) 4, dP 15 4 (.mv 19) 4], none⟩]) .ret)
def r252 : List ARes := [.t 4]
theorem k252 (c254 : T 254) : compFn Tryz.prog 252 = some ⟨20, (s252 c254).er, r252⟩ := by kernel_rfl
abbrev q252 (O : Ops Tryz.prog) (c254 : T 254) := curF 2 (sfn O (s252 c254) r252)
def g252 : { g // g = q252 } := by
  have h : q252 = q252 := rfl
  conv at h => rhs; reduce
  exact ⟨_, h.symm⟩
def C252 : T 252 := mkRun 2 (k252 C254) (by decide) (g252.1 (theOps Tryz.prog) C254) (by rw [g252.2])
def s168 (c172 : T 172) (c252 : T 252) : S := .seq (.reg [mN 2 (.box 0), mK 4 0]) (.join [1, 2] [] (.seq (.reg [mM 6 1, mU 7 (.lenS 6), mB .lss 8 7 (.c 20)]) (.cond 8 (.seq (.reg [mK 4 2]) .ret) .skip)) (.join [1, 2, 5] [] (.reg [mM 9 1, mU 10 (.idxStr 9 (.c 12)), mU 11 (.conv .i64 10), mB .shr 12 11 (.c (.i .u64 4)), mM 5 12]) (.seq (.block 0 (.seq (.reg [mM 14 5, mB .lss 15 14 (.c 5), mM 13 15]) (.cond 13 (.seq (.reg [mK 4 3]) .ret) (.join [1, 2, 16] [] (.reg [mM 17 1, mU 18 (.lenS 17), mM 19 5, mB .mul 20 19 (.c 4), mB .lss 21 18 20, mM 16 21]) (.cond 16 (.seq (.reg [mK 4 2]) .ret) (.seq (.reg [mM 23 1, mU 24 (.idxStr 23 (.c 12)), mB .and 25 24 (.c (.i .u8 15)), mB .neq 26 25 (.c (.i .u8 0)), mM 27 26, (mM 28 1).g 27 false, (mU 29 (.idxStr 28 (.c 13))).g 27 false, (mB .gtr 30 29 (.c (.i .u8 63))).g 27 false, mU 31 (.pick 27 (.c (.b true)) 30), mM 22 31]) (.cond 22 (.seq (.reg [mK 4 3]) .ret) (.seq (.reg [mM 33 1, mU 34 (.lenS 33), mB .gtr 35 34 (.c 2000), mM 32 35]) (.cond 32 (.seq (.reg [mK 4 5]) .ret) (.seq (.reg [mR 37 (.ldN 9 2), mM 38 1, mU 39 (.lenS 38), mQ 40 252 [37, 39] c252, mM 41 1, mN 42 (.bslice 1 2 [.s [], .s []] [(0, (1, 40)), (1, (1, 41))]), mQ 43 172 [42] c172, mB .neq 44 43 (.c 0), mM 36 44]) (.cond 36 (.seq (.reg [mK 4 4]) .ret) .skip))))))))))) (.seq (.reg [mK 4 0]) .ret))))
def r168 : List ARes := [.t 4]
theorem k168 (c172 : T 172) (c252 : T 252) : compFn Tryz.prog 168 = some ⟨45, (s168 c172 c252).er, r168⟩ := by kernel_rfl
abbrev q168 (O : Ops Tryz.prog) (c172 : T 172) (c252 : T 252) := curF 2 (sfn O (s168 c172 c252) r168)
def g168 : { g // g = q168 } := by
  have h : q168 = q168 := rfl
  conv at h => rhs; reduce
  exact ⟨_, h.symm⟩
def C168 : T 168 := mkRun 2 (k168 C172 C252) (by decide) (g168.1 (theOps Tryz.prog) C172 C252) (by rw [g168.2])
def s103 (c162 : T 162) (c168 : T 168) : S := .seq (.reg [mN 6 (.newz [0, 0, .i .u32 0, .i .u32 0, 0, 0, .s []]), mK 7 (.s []), mK 8 0]) (.join [2, 6, 9] [] (.reg [mM 12 0, mM 13 1, mU 14 (.build [0, 0, .i .u32 0, .i .u32 0, 0, 0, .s [], .i .u32 0, .i .u32 0] [(7, (1, 12)), (8, (1, 13))]), mN 9 (.newz [0, 0, .i .u32 0, .i .u32 0, 0, 0, .s [], .i .u32 0, .i .u32 0]), mZ (.st 9 9 14)]) (.join [2, 6, 9] [] (.seq (.reg [mR 15 (.ldN 9 9), mM 16 2, mQ 17 168 [15, 16] c168, mM 10 17]) (.seq (.reg [mM 18 10, mB .neq 19 18 (.c 0)]) (.cond 19 (.seq (.reg [mU 20 (.build [0, 0, .i .u32 0, .i .u32 0, 0, 0, .s []] []), mM 21 10, mZ (.st 7 6 20), mK 7 (.s []), mM 8 21]) .ret) .skip))) (.join [2, 6, 9, 11] [] (.reg [mM 22 2, mU 23 (.idxStr 22 (.c 12)), mU 24 (.conv .i64 23), mB .shr 25 24 (.c (.i .u64 4)), mB .mul 26 25 (.c 4), mM 11 26]) (.join [2, 6, 9, 11] [] (.draw 0 [⟨[], [dP 0 27 (.mv 2) 0, dP 1 28 (.slStr 27 (some (.c 0)) (some (.c 2))) 0, dP 3 30 (.mv 2) 1, dP 4 31 (.slStr 30 (some (.c 2)) (some (.c 4))) 1], some (mQ 29 162 [28] c162)⟩, ⟨[], [dP 6 33 (.fieldAddr 0 9) 2, dP 7 34 (.fieldAddr 0 33) 2], some (mQ 32 162 [31] c162)⟩, ⟨[], [], some (mZ (.st 1 34 29))⟩, ⟨[], [dP 9 35 (.fieldAddr 0 9) 3, dP 10 36 (.fieldAddr 1 35) 3], some (mZ (.st 1 36 32))⟩, ⟨[], [], none⟩]) (.join [2, 6, 9, 11] [] (.draw 0 [⟨[], [dP 0 37 (.mv 2) 0, dP 1 38 (.slStr 37 (some (.c 4)) (some (.c 8))) 0, dP 4 41 (.mv 2) 1, dP 5 42 (.slStr 41 (some (.c 8)) (some (.c 12))) 1], some (mQ 39 162 [38] c162)⟩, ⟨[], [dP 3 40 (.conv .u32 39) 2, dP 8 45 (.fieldAddr 0 9) 2, dP 9 46 (.fieldAddr 2 45) 2], some (mQ 43 162 [42] c162)⟩, ⟨[], [dP 7 44 (.conv .u32 43) 3], some (mZ (.st 1 46 40))⟩, ⟨[], [dP 11 47 (.fieldAddr 0 9) 3, dP 12 48 (.fieldAddr 3 47) 3], some (mZ (.st 1 48 44))⟩, ⟨[], [], none⟩]) (.seq (.draw 0 [⟨[], [dP 0 49 (.mv 2) 1, dP 1 50 (.idxStr 49 (.c 13)) 1, dP 2 51 (.conv .i64 50) 1, dP 3 52 (.mv 2) 0, dP 4 53 (.slStr 52 (some (.c 14)) (some (.c 16))) 0, dP 6 55 (.mv 2) 3, dP 7 56 (.mv 11) 3, dP 8 57 (.slStr 55 (some (.c 20)) (some 56)) 3, dP 9 58 (.fieldAddr 0 9) 1, dP 10 59 (.fieldAddr 4 58) 1], some (mQ 54 162 [53] c162)⟩, ⟨[], [], some (mZ (.st 1 59 51))⟩, ⟨[], [dP 12 60 (.fieldAddr 0 9) 2, dP 13 61 (.fieldAddr 5 60) 2], some (mZ (.st 1 61 54))⟩, ⟨[], [dP 15 62 (.fieldAddr 0 9) 3, dP 16 63 (.fieldAddr 6 62) 3], some (mZ (.st 1 63 57))⟩, ⟨[], [], none⟩]) (.seq (.draw 0 [⟨[], [dP 0 64 (.fieldAddr 0 9) 0, dR 1 65 (.ldN 7 64) 0, dP 2 66 (.mv 2) 1, dP 3 67 (.mv 11) 1, dP 4 68 (.slStr 66 (some 67) none) 1], some (mZ (.st 7 6 65))⟩, ⟨[], [dP 6 7 (.mv 68) 1, dP 7 8 (.mv (.c 0)) 1], none⟩]) .ret)))))))
def r103 : List ARes := [.c true 7 6, .t 7, .t 8]
theorem k103 (c162 : T 162) (c168 : T 168) : compFn Tryz.prog 103 = some ⟨69, (s103 c162 c168).er, r103⟩ := by kernel_rfl
abbrev q103 (O : Ops Tryz.prog) (c162 : T 162) (c168 : T 168) := curF 3 (sfn O (s103 c162 c168) r103)
def g103 : { g // g = q103 } := by
  have h : q103 = q103 := rfl
  conv at h => rhs; reduce
  exact ⟨_, h.symm⟩
def C103 : T 103 := mkRun 3 (k103 C162 C168) (by decide) (g103.1 (theOps Tryz.prog) C162 C168) (by rw [g103.2])
def s169 (a170 : U) (a171 : U) (a174 : U) (a175 : U) (a244 : U) (a245 : U) (a246 : U) (a247 : U) (a248 : U) (a249 : U) (a250 : U) (a251 : U) : S := .seq (.reg [mK 6 0]) (.seq (.block 0 (.seq (.reg [mM 8 0, mU 9 (.lenS 8), mB .lss 10 9 (.c 8), mM 7 10]) (.cond 7 (.seq (.reg [mK 6 2]) .ret) (.seq (.reg [mM 12 1, mM 13 0, mV 14 12 [13] [a170, a171, a174, a175, a244, a245, a246, a247, a248, a249, a250, a251] [], mM 11 14]) (.cond 11 (.seq (.reg [mK 6 3]) .ret) (.seq (.reg [mM 16 0, mU 17 (.lenS 16), mB .gtr 18 17 (.c 2000), mM 15 18]) (.cond 15 (.seq (.reg [mK 6 5]) .ret) (.seq (.reg [mM 20 2, mM 21 0, mV 22 20 [21] [a170, a171, a174, a175, a244, a245, a246, a247, a248, a249, a250, a251] [], mM 19 22]) (.cond 19 (.seq (.reg [mK 6 4]) .ret) .skip))))))))) (.seq (.reg [mK 6 0]) .ret))
def r169 : List ARes := [.t 6]
theorem k169 (a170 : U) (a171 : U) (a174 : U) (a175 : U) (a244 : U) (a245 : U) (a246 : U) (a247 : U) (a248 : U) (a249 : U) (a250 : U) (a251 : U) : compFn Tryz.prog 169 = some ⟨23, (s169 a170 a171 a174 a175 a244 a245 a246 a247 a248 a249 a250 a251).er, r169⟩ := by kernel_rfl
abbrev q169 (O : Ops Tryz.prog) (a170 : U) (a171 : U) (a174 : U) (a175 : U) (a244 : U) (a245 : U) (a246 : U) (a247 : U) (a248 : U) (a249 : U) (a250 : U) (a251 : U) := curF 3 (sfn O (s169 a170 a171 a174 a175 a244 a245 a246 a247 a248 a249 a250 a251) r169)
def g169 : { g // g = q169 } := by
  have h : q169 = q169 := rfl
  conv at h => rhs; reduce
  exact ⟨_, h.symm⟩
def C169 : T 169 := mkRun 3 (k169 A170 A171 A174 A175 A244 A245 A246 A247 A248 A249 A250 A251) (by decide) (g169.1 (theOps Tryz.prog) A170 A171 A174 A175 A244 A245 A246 A247 A248 A249 A250 A251) (by rw [g169.2])
def s104 (c162 : T 162) (c169 : T 169) : S := .join [2, 3, 4, 6] [] (.reg [mN 3 (.box 0), mN 4 (.box 1), mN 6 (.newz [0, 0, 0, 0, .i .u32 0]), mK 7 (.s []), mK 8 0]) (.join [2, 6, 9] [] (.reg [mM 10 2, mU 11 (.mkFunc 171 [] [3, 4]), mQ 12 169 [10, .fn 170, 11] c169, mM 9 12]) (.join [2, 6] [] (.seq (.reg [mM 13 9, mB .neq 14 13 (.c 0)]) (.cond 14 (.seq (.reg [mU 15 (.build [0, 0, 0, 0, .i .u32 0] []), mM 16 9, mZ (.st 5 6 15), mK 7 (.s []), mM 8 16]) .ret) .skip)) (.seq (.draw 0 [⟨[], [dP 0 17 (.mv 2) 0, dP 1 18 (.slStr 17 (some (.c 0)) (some (.c 2))) 0, dP 3 20 (.mv 2) 1, dP 4 21 (.slStr 20 (some (.c 2)) (some (.c 4))) 1, dP 7 24 (.mv 2) 3, dP 8 25 (.slStr 24 (some (.c 8)) none) 3], some (mQ 19 162 [18] c162)⟩, ⟨[], [], some (mQ 22 162 [21] c162)⟩, ⟨[], [dP 6 23 (.build [0, 0, 0, 0, .i .u32 0] [(0, (1, 19)), (1, (1, 22))]) 2], some (mZ (.st 5 6 23))⟩, ⟨[], [dP 10 7 (.mv 25) 3, dP 11 8 (.mv (.c 0)) 3], none⟩]) .ret)))
def r104 : List ARes := [.c true 5 6, .t 7, .t 8]
theorem k104 (c162 : T 162) (c169 : T 169) : compFn Tryz.prog 104 = some ⟨26, (s104 c162 c169).er, r104⟩ := by kernel_rfl
abbrev q104 (O : Ops Tryz.prog) (c162 : T 162) (c169 : T 169) := curF 3 (sfn O (s104 c162 c169) r104)
def g104 : { g // g = q104 } := by
  have h : q104 = q104 := rfl
  conv at h => rhs; reduce
  exact ⟨_, h.symm⟩
def C104 : T 104 := mkRun 3 (k104 C162 C169) (by decide) (g104.1 (theOps Tryz.prog) C162 C169) (by rw [g104.2])
def s105 (c162 : T 162) (c169 : T 169) : S := .seq (.reg [mN 2 (.newz [0, 0, 0, 0, .i .u32 0]), mK 3 (.s []), mK 4 0]) (.seq (.reg [mM 6 0, mQ 7 169 [6, .fn 174, .fn 175] c169, mM 5 7]) (.join [0, 2] [] (.seq (.reg [mM 8 5, mB .neq 9 8 (.c 0)]) (.cond 9 (.seq (.reg [mU 10 (.build [0, 0, 0, 0, .i .u32 0] []), mM 11 5, mZ (.st 5 2 10), mK 3 (.s []), mM 4 11]) .ret) .skip)) (.seq (.draw 0 [⟨[], [dP 0 12 (.mv 0) 1, dP 1 13 (.idxStr 12 (.c 0)) 1, dP 2 14 (.conv .i64 13) 1, dP 3 15 (.mv 0) 1, dP 4 16 (.idxStr 15 (.c 1)) 1, dP 5 17 (.conv .i64 16) 1, dP 6 18 (.mv 0) 0, dP 7 19 (.slStr 18 (some (.c 4)) (some (.c 8))) 0, dP 11 23 (.mv 0) 2, dP 12 24 (.slStr 23 (some (.c 8)) none) 2], some (mQ 20 162 [19] c162)⟩, ⟨[], [dP 9 21 (.conv .u32 20) 1, dP 10 22 (.build [0, 0, 0, 0, .i .u32 0] [(2, (1, 14)), (3, (1, 17)), (4, (1, 21))]) 1], some (mZ (.st 5 2 22))⟩, ⟨[], [dP 14 3 (.mv 24) 2, dP 15 4 (.mv (.c 0)) 2], none⟩]) .ret)))
def r105 : List ARes := [.c true 5 2, .t 3, .t 4]
theorem k105 (c162 : T 162) (c169 : T 169) : compFn Tryz.prog 105 = some ⟨25, (s105 c162 c169).er, r105⟩ := by kernel_rfl
abbrev q105 (O : Ops Tryz.prog) (c162 : T 162) (c169 : T 169) := curF 1 (sfn O (s105 c162 c169) r105)
def g105 : { g // g = q105 } := by
  have h : q105 = q105 := rfl
  conv at h => rhs; reduce
  exact ⟨_, h.symm⟩
def C105 : T 105 := mkRun 1 (k105 C162 C169) (by decide) (g105.1 (theOps Tryz.prog) C162 C169) (by rw [g105.2])
def s320 : S := .seq (.reg [mK 4 (.b false)]) (.seq (.reg [mM 5 0, mB .geq 6 5 (.c 0), mM 7 6, (mM 8 0).g 7 true, (mM 9 1).g 7 true, (mB .leq 10 8 9).g 7 true, mU 11 (.pick 7 10 (.c (.b false))), mM 4 11]) .ret)
def r320 : List ARes := [.t 4]
theorem k320 : compFn Tryz.prog 320 = some ⟨12, (s320).er, r320⟩ := by kernel_rfl
abbrev q320 (O : Ops Tryz.prog) := curF 2 (sfn O (s320) r320)
def g320 : { g // g = q320 } := by
  have h : q320 = q320 := rfl
  conv at h => rhs; reduce
  exact ⟨_, h.symm⟩
def C320 : T 320 := mkRun 2 (k320) (by decide) (g320.1 (theOps Tryz.prog)) (by rw [g320.2])
def s255 (c320 : T 320) : S := .seq (.reg [mN 1 (.box 0), mK 2 (.b false)]) (.seq (.reg [mF 0 3 1, mL 4 3, mQ 5 320 [4, .c 255] c320, mM 6 5, (mF 5 7 1).g 6 true, (mL 8 7).g 6 true, (mQ 9 320 [8, .c 255] c320).g 6 true, mU 10 (.pick 6 9 (.c (.b false))), mM 11 10, (mF 6 12 1).g 11 true, (mL 13 12).g 11 true, (mQ 14 320 [13, .c 255] c320).g 11 true, mU 15 (.pick 11 14 (.c (.b false))), mM 16 15, (mF 1 17 1).g 16 true, (mL 18 17).g 16 true, (mQ 19 320 [18, .c 65535] c320).g 16 true, mU 20 (.pick 16 19 (.c (.b false))), mM 21 20, (mF 4 22 1).g 21 true, (mL 23 22).g 21 true, (mQ 24 320 [23, .c 65528] c320).g 21 true, mU 25 (.pick 21 24 (.c (.b false))), mM 26 25, (mF 4 27 1).g 26 true, (mL 28 27).g 26 true, (mB .rem 29 28 (.c 8)).g 26 true, (mB .eql 30 29 (.c 0)).g 26 true, mU 31 (.pick 26 30 (.c (.b false))), mM 32 31, (mF 9 33 1).g 32 true, (mL 34 33).g 32 true, (mU 35 (.lenS 34)).g 32 true, (mB .leq 36 35 (.c 40)).g 32 true, mU 37 (.pick 32 36 (.c (.b false))), mM 38 37, (mF 9 39 1).g 38 true, (mL 40 39).g 38 true, (mU 41 (.lenS 40)).g 38 true, (mB .rem 42 41 (.c 4)).g 38 true, (mB .eql 43 42 (.c 0)).g 38 true, mU 44 (.pick 38 43 (.c (.b false))), mM 2 44]) .ret)
def r255 : List ARes := [.t 2]
theorem k255 (c320 : T 320) : compFn Tryz.prog 255 = some ⟨45, (s255 c320).er, r255⟩ := by kernel_rfl
abbrev q255 (O : Ops Tryz.prog) (c320 : T 320) := curF 1 (sfn O (s255 c320) r255)
def g255 : { g // g = q255 } := by
  have h : q255 = q255 := rfl
  conv at h => rhs; reduce
  exact ⟨_, h.symm⟩
def C255 : T 255 := mkRun 1 (k255 C320) (by decide) (g255.1 (theOps Tryz.prog) C320) (by rw [g255.2])
def s256 : S := .seq (.reg [mN 1 (.box 0), mK 2 0]) (.seq (.reg [mF 4 4 1, mL 5 4, mB .quo 6 5 (.c 8), mM 3 6]) (.join [1, 3] [] (.seq (.reg [mF 3 7 1, mL 8 7]) (.cond 8 (.reg [mM 9 3, mB .or 10 9 (.c 16384), mM 3 10]) .skip)) (.join [3] [] (.seq (.reg [mF 2 11 1, mL 12 11]) (.cond 12 (.reg [mM 13 3, mB .or 14 13 (.c 8192), mM 3 14]) .skip)) (.seq (.reg [mM 15 3, mM 2 15]) .ret))))
def r256 : List ARes := [.t 2]
theorem k256 : compFn Tryz.prog 256 = some ⟨16, (s256).er, r256⟩ := by kernel_rfl
abbrev q256 (O : Ops Tryz.prog) := curF 1 (sfn O (s256) r256)
def g256 : { g // g = q256 } := by
  have h : q256 = q256 := rfl
  conv at h => rhs; reduce
  exact ⟨_, h.symm⟩
def C256 : T 256 := mkRun 1 (k256) (by decide) (g256.1 (theOps Tryz.prog)) (by rw [g256.2])
def s176 (c172 : T 172) (c254 : T 254) (c255 : T 255) (c256 : T 256) : S := .seq (.reg [mN 2 (.box 0), mK 4 (.s []), mK 5 0]) (.join [1, 2] [] (.block 0 (.seq (.reg [mR 10 (.ldN 10 2), mQ 11 255 [10] c255, mU 12 (.un .not 11), mM 9 12]) (.cond 9 (.seq (.reg [mK 4 (.s []), mK 5 1]) .ret) (.seq (.reg [mM 14 1, mU 15 (.lenS 14), mB .gtr 16 15 (.c 2000), mM 13 16]) (.cond 13 (.seq (.reg [mK 4 (.s []), mK 5 5]) .ret) .skip))))) (.join [1, 2, 6] [] (.reg [mF 9 17 2, mL 18 17, mU 19 (.lenS 18), mB .add 20 (.c 20) 19, mM 6 20]) (.join [1, 2, 7] [] (.draw 0 [⟨[], [dP 0 21 (.mv 6) 0, dP 1 22 (.bin .quo 21 (.c 4)) 0, dP 2 23 (.bin .or (.c 64) 22) 0, dP 4 25 (.fieldAddr 0 2) 1, dR 5 26 (.ld1 25) 1, dP 8 29 (.mv 6) 2, dP 9 30 (.mv 1) 2, dP 10 31 (.lenS 30) 2, dP 11 32 (.bin .add 29 31) 2, dP 14 35 (.fieldAddr 1 2) 3, dR 15 36 (.ld1 35) 3, dR 18 39 (.ldN 10 2) 4, dP 22 43 (.fieldAddr 5 2) 6, dR 23 44 (.ld1 43) 6, dP 26 47 (.fieldAddr 6 2) 7, dR 27 48 (.ld1 47) 7], some (mQ 24 254 [23, .c 1] c254)⟩, ⟨[⟨some 26, .read (.ld1 25), none⟩, ⟨some 36, .read (.ld1 35), none⟩, ⟨some 39, .read (.ldN 10 2), none⟩, ⟨some 44, .read (.ld1 43), none⟩, ⟨some 48, .read (.ld1 47), none⟩], [], some (mQ 27 254 [26, .c 1] c254)⟩, ⟨[⟨some 36, .read (.ld1 35), none⟩, ⟨some 39, .read (.ldN 10 2), none⟩, ⟨some 44, .read (.ld1 43), none⟩, ⟨some 48, .read (.ld1 47), none⟩], [dP 7 28 (.bin .add 24 27) 8], some (mQ 33 254 [32, .c 2] c254)⟩, ⟨[⟨some 36, .read (.ld1 35), none⟩, ⟨some 39, .read (.ldN 10 2), none⟩, ⟨some 44, .read (.ld1 43), none⟩, ⟨some 48, .read (.ld1 47), none⟩], [dP 13 34 (.bin .add 28 33) 8], some (mQ 37 254 [36, .c 2] c254)⟩, ⟨[⟨some 39, .read (.ldN 10 2), none⟩, ⟨some 44, .read (.ld1 43), none⟩, ⟨some 48, .read (.ld1 47), none⟩], [dP 17 38 (.bin .add 34 37) 8], some (mQ 40 256 [39] c256)⟩, ⟨[⟨some 44, .read (.ld1 43), none⟩, ⟨some 48, .read (.ld1 47), none⟩], [], some (mQ 41 254 [40, .c 2] c254)⟩, ⟨[⟨some 44, .read (.ld1 43), none⟩, ⟨some 48, .read (.ld1 47), none⟩], [dP 21 42 (.bin .add 38 41) 8], some (mQ 45 254 [44, .c 1] c254)⟩, ⟨[⟨some 48, .read (.ld1 47), none⟩], [dP 25 46 (.bin .add 42 45) 8], some (mQ 49 254 [48, .c 1] c254)⟩, ⟨[], [dP 29 50 (.bin .add 46 49) 8, dP 30 7 (.mv 50) 8], none⟩]) (.seq (.draw 0 [⟨[], [dP 0 51 (.fieldAddr 7 2) 0, dR 1 52 (.ld1 51) 0, dP 2 53 (.conv .i64 52) 0, dP 4 55 (.fieldAddr 8 2) 1, dR 5 56 (.ld1 55) 1, dP 6 57 (.conv .i64 56) 1, dP 9 60 (.fieldAddr 9 2) 2, dR 10 61 (.ld1 60) 2], some (mQ 54 254 [53, .c 4] c254)⟩, ⟨[⟨some 56, .read (.ld1 55), none⟩, ⟨some 61, .read (.ld1 60), none⟩], [], some (mQ 58 254 [57, .c 4] c254)⟩, ⟨[⟨some 61, .read (.ld1 60), none⟩], [dP 8 59 (.bin .add 54 58) 2, dP 11 62 (.bin .add 59 61) 2, dP 12 8 (.mv 62) 2], none⟩]) (.seq (.reg [mM 63 7, mM 64 7, mM 65 8, mN 66 (.bslice 1 3 [.s [], .s [], .s []] [(0, (1, 64)), (1, (1, .c (.s [0, 0]))), (2, (1, 65))]), mQ 67 172 [66] c172, mQ 68 254 [67, .c 2] c254, mB .add 69 63 68, mM 70 8, mB .add 71 69 70, mM 72 1, mB .add 73 71 72, mM 4 73, mK 5 0]) .ret)))))
def r176 : List ARes := [.t 4, .t 5]
theorem k176 (c172 : T 172) (c254 : T 254) (c255 : T 255) (c256 : T 256) : compFn Tryz.prog 176 = some ⟨74, (s176 c172 c254 c255 c256).er, r176⟩ := by kernel_rfl
abbrev q176 (O : Ops Tryz.prog) (c172 : T 172) (c254 : T 254) (c255 : T 255) (c256 : T 256) := curF 2 (sfn O (s176 c172 c254 c255 c256) r176)
def g176 : { g // g = q176 } := by
  have h : q176 = q176 := rfl
  conv at h => rhs; reduce
  exact ⟨_, h.symm⟩
def C176 : T 176 := mkRun 2 (k176 C172 C254 C255 C256) (by decide) (g176.1 (theOps Tryz.prog) C172 C254 C255 C256) (by rw [g176.2])
def s177 (c254 : T 254) : S := .seq (.reg [mN 2 (.box 0), mK 4 (.s [])]) (.seq (.draw 0 [⟨[], [dP 0 5 (.fieldAddr 0 2) 1, dR 1 6 (.slArr 6 1 5 none none) 1, dR 2 7 (.b2s 6) 1, dP 3 8 (.fieldAddr 6 2) 1, dR 4 9 (.slArr 6 1 8 none none) 1, dR 5 10 (.b2s 9) 1, dP 6 11 (.bin .add 7 10) 1, dP 7 12 (.fieldAddr 12 2) 0, dR 8 13 (.ld1 12) 0, dP 11 16 (.mv 1) 1], some (mQ 14 254 [13, .c 2] c254)⟩, ⟨[⟨some 6, .read (.slArr 6 1 5 none none), none⟩, ⟨some 7, .read (.b2s 6), none⟩, ⟨some 9, .read (.slArr 6 1 8 none none), none⟩, ⟨some 10, .read (.b2s 9), none⟩], [dP 10 15 (.bin .add 11 14) 1, dP 12 17 (.bin .add 15 16) 1, dP 13 4 (.mv 17) 1], none⟩]) .ret)
def r177 : List ARes := [.t 4]
theorem k177 (c254 : T 254) : compFn Tryz.prog 177 = some ⟨18, (s177 c254).er, r177⟩ := by kernel_rfl
abbrev q177 (O : Ops Tryz.prog) (c254 : T 254) := curF 2 (sfn O (s177 c254) r177)
def g177 : { g // g = q177 } := by
  have h : q177 = q177 := rfl
  conv at h => rhs; reduce
  exact ⟨_, h.symm⟩
def C177 : T 177 := mkRun 2 (k177 C254) (by decide) (g177.1 (theOps Tryz.prog) C254) (by rw [g177.2])
def s106 (c176 : T 176) (c177 : T 177) : S := .seq (.reg [mN 3 (.box 0), mN 4 (.box 1), mK 6 (.s [])]) (.seq (.reg [mR 10 (.ldN 10 4), mM 11 2, mQ 12 176 [10, 11] c176, mM 9 12, mU 13 (.extract 0 9), mU 14 (.extract 1 9), mM 7 13, mM 8 14]) (.seq (.seq (.reg [mM 15 8, mB .neq 16 15 (.c 0)]) (.cond 16 (.seq (.reg [mK 6 (.s [])]) .ret) .skip)) (.seq (.reg [mR 17 (.ldN 13 3), mM 18 7, mQ 19 177 [17, 18] c177, mM 6 19]) .ret)))
def r106 : List ARes := [.t 6]
theorem k106 (c176 : T 176) (c177 : T 177) : compFn Tryz.prog 106 = some ⟨20, (s106 c176 c177).er, r106⟩ := by kernel_rfl
abbrev q106 (O : Ops Tryz.prog) (c176 : T 176) (c177 : T 177) := curF 3 (sfn O (s106 c176 c177) r106)
def g106 : { g // g = q106 } := by
  have h : q106 = q106 := rfl
  conv at h => rhs; reduce
  exact ⟨_, h.symm⟩
def C106 : T 106 := mkRun 3 (k106 C176 C177) (by decide) (g106.1 (theOps Tryz.prog) C176 C177) (by rw [g106.2])
end
end Go.Proofs.YtjaammiblfndaaaGreatDoor
