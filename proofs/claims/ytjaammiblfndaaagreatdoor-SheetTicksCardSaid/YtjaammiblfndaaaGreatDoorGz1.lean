/- A part of the proof: contracts of functions, over the abstract machine. -/
import Derived.Test.YtjaammiblfndaaaGreatDoorGz0
import Derived.Test.YtjaammiblfndaaaGreatDoorProg
import Derived.KernelRfl
set_option linter.unusedVariables false
set_option linter.unusedSimpArgs false
set_option linter.all false
/- Functions, worked out ahead of their runs: printed by a program of ours, held by the kernel. -/
namespace Go.Proofs.YtjaammiblfndaaaGreatDoor
open Ram Go
noncomputable section
set_option maxRecDepth 100000
set_option maxHeartbeats 4000000
def s52 (c98 : T 98) (c100 : T 100) (c103 : T 103) (c104 : T 104) (c105 : T 105) (c106 : T 106) : S := .seq (.reg [mK 4 (.b false)]) (.join [0, 1] [] (.draw 0 [⟨[], [dP 0 7 (.mv 1) 0, dP 1 8 (.mv 1) 0, dP 2 9 (.nilCheck 8) 0, dP 3 10 (.fieldAddr 15 9) 0, dP 4 11 (.fieldAddr 6 10) 0, dR 5 12 (.ld1 11) 0, dP 6 13 (.mv 1) 0, dP 7 14 (.nilCheck 13) 0, dP 8 15 (.fieldAddr 15 14) 0, dP 9 16 (.fieldAddr 7 15) 0, dR 10 17 (.ld1 16) 0, dP 11 18 (.mv 1) 0, dP 12 19 (.nilCheck 18) 0, dP 13 20 (.fieldAddr 15 19) 0, dP 14 21 (.fieldAddr 8 20) 0, dR 15 22 (.ld1 21) 0, dP 16 23 (.build [0, .i .u32 0, .i .u32 0, 0, 0] [(0, (1, 12)), (1, (1, 17)), (2, (1, 22))]) 0, dP 17 24 (.nilCheck 7) 0, dP 18 25 (.fieldAddr 34 24) 0], some (mZ (.st 5 25 23))⟩, ⟨[], [], none⟩]) (.seq (.reg [mN 5 (.newz [0, 0, 0, 0, .i .u32 0])]) (.seq (.reg [mK 6 0]) (.join [0, 6] [] (.join [0, 1, 5, 30] [] (.reg [mM 26 1, mU 27 (.nilCheck 26), mF 15 28 27, mF 6 29 28, mL 30 29]) (.block 0 (.seq (.reg [mB .eql 48 30 (.c 6), mM 47 48]) (.cond 47 (.join [0, 1, 6] [] (.draw 0 [⟨[], [dP 0 50 (.mv 1) 1, dP 1 51 (.mv 1) 2, dP 2 52 (.mv 1) 0, dP 3 53 (.nilCheck 52) 0, dP 4 54 (.fieldAddr 15 53) 0, dP 5 55 (.fieldAddr 7 54) 0, dR 6 56 (.ld1 55) 0, dP 7 57 (.mv 1) 0, dP 8 58 (.nilCheck 57) 0, dP 9 59 (.fieldAddr 15 58) 0, dP 10 60 (.fieldAddr 8 59) 0, dR 11 61 (.ld1 60) 0, dP 12 62 (.mv 1) 0, dP 13 63 (.nilCheck 62) 0, dP 14 64 (.fieldAddr 25 63) 0, dR 15 65 (.ld1 64) 0], some (mQ 66 103 [56, 61, 65] c103)⟩, ⟨[], [dP 17 49 (.mv 66) 1, dP 18 67 (.extract 0 49) 1, dP 19 68 (.extract 1 49) 2, dP 20 69 (.extract 2 49) 3, dP 21 70 (.nilCheck 50) 1, dP 22 71 (.fieldAddr 26 70) 1], some (mZ (.st 7 71 67))⟩, ⟨[], [dP 24 72 (.nilCheck 51) 2, dP 25 73 (.fieldAddr 33 72) 2], some (mZ (.st 1 73 68))⟩, ⟨[], [dP 27 6 (.mv 69) 3], none⟩]) (.draw 0 [⟨[], [dP 0 74 (.mv 1) 0, dP 1 75 (.mv 1) 1, dP 2 76 (.mv 1) 0, dP 3 77 (.nilCheck 76) 0, dP 4 78 (.fieldAddr 26 77) 0, dP 5 79 (.fieldAddr 0 78) 0, dR 6 80 (.ld1 79) 0, dP 7 81 (.mv 1) 0, dP 8 82 (.nilCheck 81) 0, dP 9 83 (.fieldAddr 26 82) 0, dP 10 84 (.fieldAddr 1 83) 0, dR 11 85 (.ld1 84) 0, dP 12 86 (.nilCheck 74) 0, dP 13 87 (.fieldAddr 34 86) 0, dP 14 88 (.fieldAddr 3 87) 0], some (mZ (.st 1 88 80))⟩, ⟨[], [dP 16 89 (.nilCheck 75) 1, dP 17 90 (.fieldAddr 34 89) 1, dP 18 91 (.fieldAddr 4 90) 1], some (mZ (.st 1 91 85))⟩, ⟨[], [], none⟩])) (.seq (.reg [mB .eql 93 30 (.c 17), mM 92 93]) (.cond 92 (.join [0, 1, 5, 6] [] (.draw 0 [⟨[], [dP 0 95 (.mv 1) 2, dP 1 96 (.mv 1) 0, dP 2 97 (.nilCheck 96) 0, dP 3 98 (.fieldAddr 15 97) 0, dP 4 99 (.fieldAddr 7 98) 0, dR 5 100 (.ld1 99) 0, dP 6 101 (.mv 1) 0, dP 7 102 (.nilCheck 101) 0, dP 8 103 (.fieldAddr 15 102) 0, dP 9 104 (.fieldAddr 8 103) 0, dR 10 105 (.ld1 104) 0, dP 11 106 (.mv 1) 0, dP 12 107 (.nilCheck 106) 0, dP 13 108 (.fieldAddr 25 107) 0, dR 14 109 (.ld1 108) 0], some (mQ 110 104 [100, 105, 109] c104)⟩, ⟨[], [dP 16 94 (.mv 110) 1, dP 17 111 (.extract 0 94) 1, dP 18 112 (.extract 1 94) 2, dP 19 113 (.extract 2 94) 3], some (mZ (.st 5 5 111))⟩, ⟨[], [dP 21 114 (.nilCheck 95) 2, dP 22 115 (.fieldAddr 33 114) 2], some (mZ (.st 1 115 112))⟩, ⟨[], [dP 24 6 (.mv 113) 3], none⟩]) (.draw 0 [⟨[], [dP 0 116 (.mv 1) 0, dP 1 117 (.mv 1) 1, dP 2 118 (.fieldAddr 0 5) 0, dR 3 119 (.ld1 118) 0, dP 4 120 (.fieldAddr 1 5) 1, dR 5 121 (.ld1 120) 1, dP 6 122 (.nilCheck 116) 0, dP 7 123 (.fieldAddr 34 122) 0, dP 8 124 (.fieldAddr 3 123) 0], some (mZ (.st 1 124 119))⟩, ⟨[⟨some 121, .read (.ld1 120), none⟩], [dP 10 125 (.nilCheck 117) 1, dP 11 126 (.fieldAddr 34 125) 1, dP 12 127 (.fieldAddr 4 126) 1], some (mZ (.st 1 127 121))⟩, ⟨[], [], none⟩])) (.seq (.reg [mB .eql 129 30 (.c 1), mM 128 129]) (.cond 128 (.reg [mM 131 1, mM 132 1, mU 133 (.nilCheck 132), mF 25 134 133, mL 135 134, mQ 136 105 [135] c105, mM 130 136, mU 137 (.extract 0 130), mU 138 (.extract 1 130), mU 139 (.extract 2 130), mU 140 (.nilCheck 131), mF 33 141 140, mZ (.st 1 141 138), mM 6 139]) (.seq (.draw 0 [⟨[], [dP 0 31 (.mv 0) 1, dP 1 32 (.mv 1) 1, dP 2 33 (.mv 1) 0, dP 3 34 (.nilCheck 33) 0, dP 4 35 (.fieldAddr 2 34) 0, dR 5 36 (.ldN 13 35) 0, dP 6 37 (.mv 1) 0, dP 7 38 (.nilCheck 37) 0, dP 8 39 (.fieldAddr 15 38) 0, dR 9 40 (.ldN 10 39) 0, dP 10 41 (.mv 1) 0, dP 11 42 (.nilCheck 41) 0, dP 12 43 (.fieldAddr 25 42) 0, dR 13 44 (.ld1 43) 0], some (mQ 45 106 [36, 40, 44] c106)⟩, ⟨[], [], some (mQ 46 100 [31, 32, 45] c100)⟩, ⟨[], [dP 16 4 (.mv 46) 2], none⟩]) .ret))))))))) (.seq (.seq (.reg [mM 142 6, mB .neq 143 142 (.c 0)]) (.cond 143 (.seq (.reg [mM 144 0, mU 145 (.nilCheck 144), mF 15 146 145, mF 2 147 146, mQ 148 98 [147] c98, mM 4 148]) .ret) .skip)) (.seq (.reg [mK 4 (.b true)]) .ret))))))
def r52 : List ARes := [.t 4]
theorem k52 (c98 : T 98) (c100 : T 100) (c103 : T 103) (c104 : T 104) (c105 : T 105) (c106 : T 106) : compFn Tryz.prog 52 = some ⟨149, (s52 c98 c100 c103 c104 c105 c106).er, r52⟩ := by kernel_rfl
abbrev q52 (O : Ops Tryz.prog) (c98 : T 98) (c100 : T 100) (c103 : T 103) (c104 : T 104) (c105 : T 105) (c106 : T 106) := curF 2 (sfn O (s52 c98 c100 c103 c104 c105 c106) r52)
def g52 : { g // g = q52 } := by
  have h : q52 = q52 := rfl
  conv at h => rhs; reduce
  exact ⟨_, h.symm⟩
def C52 : T 52 := mkRun 2 (k52 C98 C100 C103 C104 C105 C106) (by decide) (g52.1 (theOps Tryz.prog) C98 C100 C103 C104 C105 C106) (by rw [g52.2])
def A52 : U := ⟨52, C52⟩
def s178 (c197 : T 197) : S := .seq (.reg [mK 4 (.b false)]) (.seq (.reg [mM 5 0, mM 6 1, mQ 7 197 [5, 6] c197, mB .geq 8 7 (.c 0), mM 4 8]) .ret)
def r178 : List ARes := [.t 4]
theorem k178 (c197 : T 197) : compFn Tryz.prog 178 = some ⟨9, (s178 c197).er, r178⟩ := by kernel_rfl
abbrev q178 (O : Ops Tryz.prog) (c197 : T 197) := curF 2 (sfn O (s178 c197) r178)
def g178 : { g // g = q178 } := by
  have h : q178 = q178 := rfl
  conv at h => rhs; reduce
  exact ⟨_, h.symm⟩
def C178 : T 178 := mkRun 2 (k178 C197) (by decide) (g178.1 (theOps Tryz.prog) C197) (by rw [g178.2])
def s179 : S := .seq (.reg [mN 1 (.box 0), mK 2 .nf]) (.seq (.reg [mU 3 (.mkFunc 257 [] [1]), mM 2 3]) .ret)
def r179 : List ARes := [.t 2]
theorem k179 : compFn Tryz.prog 179 = some ⟨4, (s179).er, r179⟩ := by kernel_rfl
abbrev q179 (O : Ops Tryz.prog) := curF 1 (sfn O (s179) r179)
def g179 : { g // g = q179 } := by
  have h : q179 = q179 := rfl
  conv at h => rhs; reduce
  exact ⟨_, h.symm⟩
def C179 : T 179 := mkRun 1 (k179) (by decide) (g179.1 (theOps Tryz.prog)) (by rw [g179.2])
def s107 (c178 : T 178) (c179 : T 179) : S := .seq (.reg [mN 3 (.box 1), mK 4 (.b false)]) (.seq (.draw 0 [⟨[], [dP 0 5 (.mv 0) 1, dP 1 6 (.nilCheck 5) 1, dP 2 7 (.fieldAddr 2 6) 1, dR 3 8 (.ld1 7) 1, dR 4 9 (.ldN 5 3) 0], some (mQ 10 179 [9] c179)⟩, ⟨[⟨some 8, .read (.ld1 7), none⟩], [], some (mQ 11 178 [8, 10] c178)⟩, ⟨[], [dP 7 4 (.mv 11) 2], none⟩]) .ret)
def r107 : List ARes := [.t 4]
theorem k107 (c178 : T 178) (c179 : T 179) : compFn Tryz.prog 107 = some ⟨12, (s107 c178 c179).er, r107⟩ := by kernel_rfl
abbrev q107 (O : Ops Tryz.prog) (c178 : T 178) (c179 : T 179) := curF 2 (sfn O (s107 c178 c179) r107)
def g107 : { g // g = q107 } := by
  have h : q107 = q107 := rfl
  conv at h => rhs; reduce
  exact ⟨_, h.symm⟩
def C107 : T 107 := mkRun 2 (k107 C178 C179) (by decide) (g107.1 (theOps Tryz.prog) C178 C179) (by rw [g107.2])
def s53 (c98 : T 98) (c107 : T 107) : S := .seq (.reg [mK 4 (.b false)]) (.seq (.seq (.draw 0 [⟨[], [dP 0 5 (.mv 0) 0, dP 1 6 (.nilCheck 5) 0, dP 2 7 (.fieldAddr 13 6) 0, dR 3 8 (.ld1 7) 0, dP 4 9 (.mv 1) 0, dP 5 10 (.nilCheck 9) 0, dP 6 11 (.fieldAddr 34 10) 0, dR 7 12 (.ldN 5 11) 0], some (mQ 13 107 [8, 12] c107)⟩, ⟨[], [], none⟩]) (.cond 13 (.seq (.reg [mM 14 0, mU 15 (.nilCheck 14), mF 15 16 15, mF 3 17 16, mQ 18 98 [17] c98, mM 4 18]) .ret) .skip)) (.seq (.reg [mK 4 (.b true)]) .ret))
def r53 : List ARes := [.t 4]
theorem k53 (c98 : T 98) (c107 : T 107) : compFn Tryz.prog 53 = some ⟨19, (s53 c98 c107).er, r53⟩ := by kernel_rfl
abbrev q53 (O : Ops Tryz.prog) (c98 : T 98) (c107 : T 107) := curF 2 (sfn O (s53 c98 c107) r53)
def g53 : { g // g = q53 } := by
  have h : q53 = q53 := rfl
  conv at h => rhs; reduce
  exact ⟨_, h.symm⟩
def C53 : T 53 := mkRun 2 (k53 C98 C107) (by decide) (g53.1 (theOps Tryz.prog) C98 C107) (by rw [g53.2])
def A53 : U := ⟨53, C53⟩
def s180 (c258 : T 258) : S := .seq (.reg [mN 3 (.box 1), mK 4 (.p none)]) (.join [0, 3] [] (.seq (.draw 0 [⟨[], [dP 0 6 (.mv 0) 0, dP 1 7 (.nilCheck 6) 0, dP 2 8 (.fieldAddr 5 7) 0, dR 3 9 (.ld1 8) 0, dR 4 10 (.ldN 5 3) 0, dR 5 11 (.lookup (.flat [(0, .i), (1, .i), (2, .i), (3, .i), (4, .i)]) (.p none) false 9 10) 0, dP 6 5 (.mv 11) 0], none⟩]) (.seq (.reg [mM 12 5, mR 13 (.peq true 12 (.c (.p none)))]) (.cond 13 (.seq (.reg [mM 14 5, mM 4 14]) .ret) .skip))) (.seq (.draw 0 [⟨[], [dP 0 15 (.mv 0) 1, dP 1 16 (.nilCheck 15) 1, dP 2 17 (.fieldAddr 5 16) 1, dR 3 18 (.ld1 17) 1, dR 4 19 (.ldN 5 3) 0], some (mQ 20 258 [19] c258)⟩, ⟨[⟨some 18, .read (.ld1 17), none⟩], [dR 6 21 (.lookup (.flat [(0, .i), (1, .i), (2, .i), (3, .i), (4, .i)]) (.p none) false 18 20) 1, dP 7 4 (.mv 21) 1], none⟩]) .ret))
def r180 : List ARes := [.t 4]
theorem k180 (c258 : T 258) : compFn Tryz.prog 180 = some ⟨22, (s180 c258).er, r180⟩ := by kernel_rfl
abbrev q180 (O : Ops Tryz.prog) (c258 : T 258) := curF 2 (sfn O (s180 c258) r180)
def g180 : { g // g = q180 } := by
  have h : q180 = q180 := rfl
  conv at h => rhs; reduce
  exact ⟨_, h.symm⟩
def C180 : T 180 := mkRun 2 (k180 C258) (by decide) (g180.1 (theOps Tryz.prog) C258) (by rw [g180.2])
def s182 : S := .join [0, 1] [] (.reg [mM 4 1, mM 5 0, mU 6 (.nilCheck 5), mF 2 7 6, mL 8 7, mU 9 (.nilCheck 4), mF 6 10 9, mZ (.st 1 10 8)]) (.join [1] [] (.draw 0 [⟨[], [dP 0 11 (.mv 1) 0, dP 1 12 (.mv 1) 1, dP 2 13 (.mv 0) 0, dP 3 14 (.nilCheck 13) 0, dP 4 15 (.fieldAddr 4 14) 0, dR 5 16 (.ld1 15) 0, dP 6 17 (.nilCheck 16) 0, dP 7 18 (.fieldAddr 7 17) 0, dR 8 19 (.ld1 18) 0, dP 9 20 (.mv 0) 0, dP 10 21 (.nilCheck 20) 0, dP 11 22 (.fieldAddr 4 21) 0, dR 12 23 (.ld1 22) 0, dP 13 24 (.nilCheck 11) 0, dP 14 25 (.fieldAddr 7 24) 0], some (mZ (.st 1 25 19))⟩, ⟨[], [dP 16 26 (.nilCheck 12) 1, dP 17 27 (.fieldAddr 8 26) 1], some (mZ (.st 1 27 23))⟩, ⟨[], [], none⟩]) (.draw 0 [⟨[], [dP 0 28 (.mv 1) 0, dP 1 29 (.nilCheck 28) 0, dP 2 30 (.fieldAddr 7 29) 0, dR 3 31 (.ld1 30) 0, dP 4 32 (.mv 1) 0, dP 5 33 (.nilCheck 32) 0, dP 6 34 (.fieldAddr 8 33) 0, dR 7 35 (.ld1 34) 0, dP 8 36 (.mv 1) 0, dP 9 37 (.mv 1) 1, dP 10 38 (.nilCheck 31) 0, dP 11 39 (.fieldAddr 8 38) 0], some (mZ (.st 1 39 36))⟩, ⟨[], [dP 13 40 (.nilCheck 35) 1, dP 14 41 (.fieldAddr 7 40) 1], some (mZ (.st 1 41 37))⟩, ⟨[], [], none⟩]))
def r182 : List ARes := []
theorem k182 : compFn Tryz.prog 182 = some ⟨42, (s182).er, r182⟩ := by kernel_rfl
abbrev q182 (O : Ops Tryz.prog) := curF 2 (sfn O (s182) r182)
def g182 : { g // g = q182 } := by
  have h : q182 = q182 := rfl
  conv at h => rhs; reduce
  exact ⟨_, h.symm⟩
def C182 : T 182 := mkRun 2 (k182) (by decide) (g182.1 (theOps Tryz.prog)) (by rw [g182.2])
def s108 (c180 : T 180) (c181 : T 181) (c182 : T 182) (c183 : T 183) : S := .seq (.reg [mN 3 (.box 1), mK 4 0, mK 5 0, mK 6 (.b false)]) (.join [0, 3, 7] [] (.reg [mM 8 0, mR 9 (.ldN 5 3), mQ 10 180 [8, 9] c180, mM 7 10]) (.seq (.seq (.reg [mM 11 7, mR 12 (.peq false 11 (.c (.p none)))]) (.cond 12 (.seq (.reg [mK 4 0, mK 5 0, mK 6 (.b false)]) .ret) .skip)) (.seq (.reg [mM 13 7, mQ 14 181 [13] c181]) (.seq (.reg [mM 15 0, mM 16 7, mQ 17 182 [15, 16] c182]) (.seq (.draw 0 [⟨[], [dR 0 19 (.ldN 5 3) 0, dP 1 20 (.mv 7) 0, dP 2 21 (.nilCheck 20) 0, dP 3 22 (.fieldAddr 0 21) 0, dR 4 23 (.ldN 5 22) 0], some (mQ 24 183 [19, 23] c183)⟩, ⟨[], [dP 6 18 (.mv 24) 1, dP 7 25 (.extract 0 18) 1, dP 8 26 (.extract 1 18) 1, dP 9 5 (.mv 25) 1], none⟩]) (.seq (.reg [mM 27 7, mU 28 (.nilCheck 27), mF 5 29 28, mL 30 29, mM 31 5, mM 4 30, mM 5 31, mK 6 (.b true)]) .ret))))))
def r108 : List ARes := [.t 4, .t 5, .t 6]
theorem k108 (c180 : T 180) (c181 : T 181) (c182 : T 182) (c183 : T 183) : compFn Tryz.prog 108 = some ⟨32, (s108 c180 c181 c182 c183).er, r108⟩ := by kernel_rfl
abbrev q108 (O : Ops Tryz.prog) (c180 : T 180) (c181 : T 181) (c182 : T 182) (c183 : T 183) := curF 2 (sfn O (s108 c180 c181 c182 c183) r108)
def g108 : { g // g = q108 } := by
  have h : q108 = q108 := rfl
  conv at h => rhs; reduce
  exact ⟨_, h.symm⟩
def C108 : T 108 := mkRun 2 (k108 C180 C181 C182 C183) (by decide) (g108.1 (theOps Tryz.prog) C180 C181 C182 C183) (by rw [g108.2])
def s109 (c108 : T 108) (c182 : T 182) (c184 : T 184) : S := .seq (.reg [mN 3 (.box 1), mK 4 0, mK 5 0]) (.join [0, 3, 5] [] (.seq (.reg [mM 12 0, mR 13 (.ldN 5 3), mQ 14 108 [12, 13] c108, mM 11 14, mU 15 (.extract 0 11), mU 16 (.extract 1 11), mU 17 (.extract 2 11), mM 6 15, mM 7 16, mM 8 17]) (.seq (.reg [mM 18 8]) (.cond 18 (.seq (.reg [mM 19 6, mM 4 19, mK 5 0]) .ret) .skip))) (.join [0, 3, 5] [] (.join [0, 3, 5, 29] [] (.draw 0 [⟨[], [dP 0 20 (.mv 0) 0, dP 1 21 (.nilCheck 20) 0, dP 2 22 (.fieldAddr 5 21) 0, dR 3 23 (.ld1 22) 0, dR 4 24 (.lenM 23) 0, dP 5 25 (.mv 0) 0, dP 6 26 (.nilCheck 25) 0, dP 7 27 (.fieldAddr 0 26) 0, dR 8 28 (.ld1 27) 0, dP 9 29 (.bin .geq 24 28) 0], none⟩]) (.cond 29 (.seq (.reg [mM 30 0, mU 31 (.nilCheck 30), mF 4 32 31, mL 33 32, mU 34 (.nilCheck 33), mF 8 35 34, mL 36 35, mM 9 36]) (.seq (.reg [mM 37 9, mU 38 (.nilCheck 37), mF 5 39 38, mL 40 39, mM 5 40]) (.reg [mM 41 0, mM 42 9, mQ 43 184 [41, 42] c184]))) .skip)) (.join [0, 3, 5] [] (.reg [mM 44 0, mU 45 (.nilCheck 44), mF 3 46 45, mL 47 46, mB .add 48 47 (.c 1), mU 49 (.nilCheck 44), mF 3 50 49, mZ (.st 1 50 48)]) (.join [0, 3, 5, 10] [] (.draw 8 [⟨[], [dR 0 51 (.ldN 5 3) 0, dP 1 52 (.mv 0) 0, dP 2 53 (.nilCheck 52) 0, dP 3 54 (.fieldAddr 3 53) 0, dR 4 55 (.ld1 54) 0, dP 5 56 (.build [0, .i .u32 0, .i .u32 0, 0, 0, 0, 0, .p none, .p none] [(0, (5, 51)), (5, (1, 55))]) 0, ⟨6, ⟨some 57, .alloc (.box 56), none⟩, 0⟩, dP 7 10 (.mv 57) 0], none⟩]) (.seq (.draw 0 [⟨[], [dP 0 58 (.mv 0) 0, dP 1 59 (.nilCheck 58) 0, dP 2 60 (.fieldAddr 5 59) 0, dR 3 61 (.ld1 60) 0, dR 4 62 (.ldN 5 3) 0, dP 5 63 (.mv 10) 0], some (mZ (.mapUpd (.flat [(0, .i), (1, .i), (2, .i), (3, .i), (4, .i)]) 61 62 63))⟩, ⟨[], [], none⟩]) (.seq (.reg [mM 64 0, mM 65 10, mQ 66 182 [64, 65] c182]) (.seq (.reg [mM 67 10, mU 68 (.nilCheck 67), mF 5 69 68, mL 70 69, mM 71 5, mM 4 70, mM 5 71]) .ret)))))))
def r109 : List ARes := [.t 4, .t 5]
theorem k109 (c108 : T 108) (c182 : T 182) (c184 : T 184) : compFn Tryz.prog 109 = some ⟨72, (s109 c108 c182 c184).er, r109⟩ := by kernel_rfl
abbrev q109 (O : Ops Tryz.prog) (c108 : T 108) (c182 : T 182) (c184 : T 184) := curF 2 (sfn O (s109 c108 c182 c184) r109)
def g109 : { g // g = q109 } := by
  have h : q109 = q109 := rfl
  conv at h => rhs; reduce
  exact ⟨_, h.symm⟩
def C109 : T 109 := mkRun 2 (k109 C108 C182 C184) (by decide) (g109.1 (theOps Tryz.prog) C108 C182 C184) (by rw [g109.2])
def s321 (c153 : T 153) (c362 : T 362) : S := .seq (.reg [mN 2 (.box 0), mK 4 (.b false)]) (.join [1, 2] [] (.seq (.reg [mR 8 (.ldN 2 2), mQ 9 153 [8] c153, mU 10 (.un .not 9)]) (.cond 10 (.seq (.reg [mK 4 (.b false)]) .ret) .skip)) (.join [1, 2, 5] [] (.reg [mF 1 11 2, mL 12 11, mU 13 (.lenSl 12), mB .eql 14 13 (.c 0), mM 5 14]) (.seq (.seq (.reg [mF 1 15 2, mL 16 15, mU 17 (.lenSl 16), mK 18 0]) (.block 0 (.loop [5, 18] [1, 2, 16, 17] (.seq (.reg [mB .lss 19 18 17]) (.seq (.cond 19 .skip (.exit 0)) (.seq (.block 1 (.seq (.reg [mU 20 (.idxAddrSl 2 16 18), mR 21 (.ldN 2 20), mN 7 (.newz [.i .u32 0, 0]), mZ (.st 2 7 21)]) (.reg [mM 22 5, mM 23 22, (mR 24 (.ldN 2 7)).g 23 false, (mM 25 1).g 23 false, (mQ 26 362 [24, 25] c362).g 23 false, mU 27 (.pick 23 (.c (.b true)) 26), mM 5 27]))) (.reg [mB .add 28 18 (.c 1), mM 18 28]))))))) (.seq (.reg [mM 29 5, mF 0 30 2, mL 31 30, mU 32 (.eqB true 29 31), mM 4 32]) .ret))))
def r321 : List ARes := [.t 4]
theorem k321 (c153 : T 153) (c362 : T 362) : compFn Tryz.prog 321 = some ⟨33, (s321 c153 c362).er, r321⟩ := by kernel_rfl
abbrev q321 (O : Ops Tryz.prog) (c153 : T 153) (c362 : T 362) := curF 2 (sfn O (s321 c153 c362) r321)
def g321 : { g // g = q321 } := by
  have h : q321 = q321 := rfl
  conv at h => rhs; reduce
  exact ⟨_, h.symm⟩
def C321 : T 321 := mkRun 2 (k321 C153 C362) (by decide) (g321.1 (theOps Tryz.prog) C153 C362) (by rw [g321.2])
def s322 (c154 : T 154) : S := .seq (.reg [mN 2 (.box 0), mK 4 (.b false)]) (.join [1, 2] [] (.seq (.reg [mR 8 (.ldN 2 2), mQ 9 154 [8] c154, mU 10 (.un .not 9), mM 11 10, (mM 12 1).g 11 false, (mB .lss 13 12 (.c 0)).g 11 false, mU 14 (.pick 11 (.c (.b true)) 13), mM 15 14, (mM 16 1).g 15 false, (mB .gtr 17 16 (.c 65535)).g 15 false, mU 18 (.pick 15 (.c (.b true)) 17)]) (.cond 18 (.seq (.reg [mK 4 (.b false)]) .ret) .skip)) (.join [1, 2, 5] [] (.reg [mF 1 19 2, mL 20 19, mU 21 (.lenSl 20), mB .eql 22 21 (.c 0), mM 5 22]) (.seq (.join [1, 2, 5, 24, 25, 26] [] (.reg [mF 1 23 2, mL 24 23, mU 25 (.lenSl 24), mK 26 0]) (.block 0 (.loop [5, 26] [1, 2, 24, 25] (.seq (.reg [mB .lss 27 26 25]) (.seq (.cond 27 .skip (.exit 0)) (.seq (.block 1 (.seq (.reg [mU 28 (.idxAddrSl 2 24 26), mR 29 (.ldN 2 28), mN 7 (.newz [0, 0]), mZ (.st 2 7 29)]) (.reg [mM 30 5, mM 31 30, (mM 32 1).g 31 false, (mF 0 33 7).g 31 false, (mL 34 33).g 31 false, (mB .geq 35 32 34).g 31 false, (mM 36 35).g 31 false, (mM 37 1).g 36 true, (mF 1 38 7).g 36 true, (mL 39 38).g 36 true, (mB .leq 40 37 39).g 36 true, (mU 41 (.pick 36 40 (.c (.b false)))).g 31 false, mU 42 (.pick 31 (.c (.b true)) 41), mM 5 42]))) (.reg [mB .add 43 26 (.c 1), mM 26 43]))))))) (.seq (.reg [mM 44 5, mF 0 45 2, mL 46 45, mU 47 (.eqB true 44 46), mM 4 47]) .ret))))
def r322 : List ARes := [.t 4]
theorem k322 (c154 : T 154) : compFn Tryz.prog 322 = some ⟨48, (s322 c154).er, r322⟩ := by kernel_rfl
abbrev q322 (O : Ops Tryz.prog) (c154 : T 154) := curF 2 (sfn O (s322 c154) r322)
def g322 : { g // g = q322 } := by
  have h : q322 = q322 := rfl
  conv at h => rhs; reduce
  exact ⟨_, h.symm⟩
def C322 : T 322 := mkRun 2 (k322 C154) (by decide) (g322.1 (theOps Tryz.prog) C154) (by rw [g322.2])
def s259 (c321 : T 321) (c322 : T 322) : S := .join [2, 3] [] (.reg [mN 2 (.box 0), mN 3 (.box 1), mK 4 (.b false)]) (.seq (.reg [mF 2 5 2, mR 6 (.ldN 2 5), mF 0 7 3, mL 8 7, mQ 9 321 [6, 8] c321, mM 10 9, (mF 4 11 2).g 10 true, (mR 12 (.ldN 2 11)).g 10 true, (mF 1 13 3).g 10 true, (mL 14 13).g 10 true, (mQ 15 322 [12, 14] c322).g 10 true, mU 16 (.pick 10 15 (.c (.b false))), mM 4 16]) .ret)
def r259 : List ARes := [.t 4]
theorem k259 (c321 : T 321) (c322 : T 322) : compFn Tryz.prog 259 = some ⟨17, (s259 c321 c322).er, r259⟩ := by kernel_rfl
abbrev q259 (O : Ops Tryz.prog) (c321 : T 321) (c322 : T 322) := curF 2 (sfn O (s259 c321 c322) r259)
def g259 : { g // g = q259 } := by
  have h : q259 = q259 := rfl
  conv at h => rhs; reduce
  exact ⟨_, h.symm⟩
def C259 : T 259 := mkRun 2 (k259 C321 C322) (by decide) (g259.1 (theOps Tryz.prog) C321 C322) (by rw [g259.2])
def A259 : U := ⟨259, C259⟩
def s260 (c321 : T 321) (c322 : T 322) : S := .join [2, 3] [] (.reg [mN 2 (.box 0), mN 3 (.box 1), mK 4 (.b false)]) (.seq (.reg [mF 6 5 2, mR 6 (.ldN 2 5), mF 0 7 3, mL 8 7, mQ 9 321 [6, 8] c321, mM 10 9, (mF 8 11 2).g 10 true, (mR 12 (.ldN 2 11)).g 10 true, (mF 1 13 3).g 10 true, (mL 14 13).g 10 true, (mQ 15 322 [12, 14] c322).g 10 true, mU 16 (.pick 10 15 (.c (.b false))), mM 4 16]) .ret)
def r260 : List ARes := [.t 4]
theorem k260 (c321 : T 321) (c322 : T 322) : compFn Tryz.prog 260 = some ⟨17, (s260 c321 c322).er, r260⟩ := by kernel_rfl
abbrev q260 (O : Ops Tryz.prog) (c321 : T 321) (c322 : T 322) := curF 2 (sfn O (s260 c321 c322) r260)
def g260 : { g // g = q260 } := by
  have h : q260 = q260 := rfl
  conv at h => rhs; reduce
  exact ⟨_, h.symm⟩
def C260 : T 260 := mkRun 2 (k260 C321 C322) (by decide) (g260.1 (theOps Tryz.prog) C321 C322) (by rw [g260.2])
def A260 : U := ⟨260, C260⟩
def s185 (a259 : U) (a260 : U) : S := .join [2, 3, 4] [] (.reg [mN 3 (.box 0), mN 4 (.box 1), mK 6 (.b false)]) (.join [2, 3, 4] [] (.seq (.reg [mM 12 2, mB .lss 13 12 (.c 0), mM 14 13, (mM 15 2).g 14 false, (mB .gtr 16 15 (.c 1)).g 14 false, mU 17 (.pick 14 (.c (.b true)) 16), mM 18 17, (mF 1 19 3).g 18 false, (mL 20 19).g 18 false, (mB .neq 21 20 (.c 0)).g 18 false, (mM 22 21).g 18 false, (mF 1 23 3).g 22 true, (mL 24 23).g 22 true, (mF 0 25 4).g 22 true, (mL 26 25).g 22 true, (mB .neq 27 24 26).g 22 true, (mU 28 (.pick 22 27 (.c (.b false)))).g 18 false, mU 29 (.pick 18 (.c (.b true)) 28)]) (.cond 29 (.seq (.reg [mK 6 (.b false)]) .ret) .skip)) (.join [2, 3, 7, 8] [] (.draw 14 [⟨[], [dP 0 30 (.fieldAddr 1 4) 0, dR 1 31 (.ld1 30) 0, dP 2 32 (.fieldAddr 3 4) 0, dR 3 33 (.ld1 32) 0, dP 4 34 (.build [.i .u32 0, 0] [(0, (1, 31)), (1, (1, 33))]) 0, dP 5 35 (.fieldAddr 2 4) 1, dR 6 36 (.ld1 35) 1, dP 7 37 (.fieldAddr 4 4) 1, dR 8 38 (.ld1 37) 1, dP 9 39 (.build [.i .u32 0, 0] [(0, (1, 36)), (1, (1, 38))]) 1, ⟨10, ⟨some 7, .alloc (.newz [.i .u32 0, 0]), none⟩, 0⟩, ⟨11, ⟨some 8, .alloc (.newz [.i .u32 0, 0]), none⟩, 0⟩], some (mZ (.st 2 7 34))⟩, ⟨[⟨some 36, .read (.ld1 35), none⟩, ⟨some 38, .read (.ld1 37), none⟩], [], some (mZ (.st 2 8 39))⟩, ⟨[], [], none⟩]) (.join [2, 3, 7, 8] [] (.seq (.reg [mM 40 2, mB .eql 41 40 (.c 1)]) (.cond 41 (.reg [mR 42 (.ldN 2 8), mR 43 (.ldN 2 7), mZ (.st 2 7 42), mZ (.st 2 8 43)]) .skip)) (.join [2, 3, 7, 8, 9, 10] [] (.draw 0 [⟨[], [dR 0 44 (.ldN 15 3) 0, dP 1 45 (.mkFunc 259 [44] []) 0, dR 2 46 (.ldN 15 3) 0, dP 3 47 (.mkFunc 260 [46] []) 0, dP 4 9 (.mv 45) 0, dP 5 10 (.mv 47) 0], none⟩]) (.join [2, 3, 11] [] (.reg [mM 48 9, mR 49 (.ldN 2 7), mV 50 48 [49] [a259, a260] [], mM 51 50, (mM 52 10).g 51 true, (mR 53 (.ldN 2 8)).g 51 true, (mV 54 52 [53] [a259, a260] []).g 51 true, mU 55 (.pick 51 54 (.c (.b false))), mM 56 55, (mF 10 57 3).g 56 false, (mL 58 57).g 56 false, (mM 59 58).g 56 false, (mM 60 9).g 59 true, (mR 61 (.ldN 2 8)).g 59 true, (mV 62 60 [61] [a259, a260] []).g 59 true, (mU 63 (.pick 59 62 (.c (.b false)))).g 56 false, (mM 64 63).g 56 false, (mM 65 10).g 64 true, (mR 66 (.ldN 2 7)).g 64 true, (mV 67 65 [66] [a259, a260] []).g 64 true, (mU 68 (.pick 64 67 (.c (.b false)))).g 56 false, mU 69 (.pick 56 (.c (.b true)) 68), mM 11 69]) (.seq (.reg [mM 70 11, mM 71 70, (mF 11 72 3).g 71 true, (mL 73 72).g 71 true, (mB .eql 74 73 (.c 0)).g 71 true, (mM 75 74).g 71 true, (mF 11 76 3).g 75 false, (mL 77 76).g 75 false, (mB .eql 78 77 (.c 1)).g 75 false, (mM 79 78).g 75 false, (mM 80 2).g 79 true, (mB .eql 81 80 (.c 0)).g 79 true, (mU 82 (.pick 79 81 (.c (.b false)))).g 75 false, (mU 83 (.pick 75 (.c (.b true)) 82)).g 71 true, (mM 84 83).g 71 true, (mF 11 85 3).g 84 false, (mL 86 85).g 84 false, (mB .eql 87 86 (.c 2)).g 84 false, (mM 88 87).g 84 false, (mM 89 2).g 88 true, (mB .eql 90 89 (.c 1)).g 88 true, (mU 91 (.pick 88 90 (.c (.b false)))).g 84 false, (mU 92 (.pick 84 (.c (.b true)) 91)).g 71 true, mU 93 (.pick 71 92 (.c (.b false))), mM 6 93]) .ret))))))
def r185 : List ARes := [.t 6]
theorem k185 (a259 : U) (a260 : U) : compFn Tryz.prog 185 = some ⟨94, (s185 a259 a260).er, r185⟩ := by kernel_rfl
abbrev q185 (O : Ops Tryz.prog) (a259 : U) (a260 : U) := curF 3 (sfn O (s185 a259 a260) r185)
def g185 : { g // g = q185 } := by
  have h : q185 = q185 := rfl
  conv at h => rhs; reduce
  exact ⟨_, h.symm⟩
def C185 : T 185 := mkRun 3 (k185 A259 A260) (by decide) (g185.1 (theOps Tryz.prog) A259 A260) (by rw [g185.2])
def s110 (c185 : T 185) : S := .seq (.reg [mN 4 (.box 1), mK 6 (.sl 0 none 0 0)]) (.seq (.reg [mK 7 (.sl 0 none 0 0)]) (.seq (.seq (.reg [mM 10 0, mU 11 (.lenSl 10), mK 12 0]) (.block 0 (.loop [7, 12] [2, 4, 10, 11] (.seq (.reg [mB .lss 13 12 11]) (.seq (.cond 13 .skip (.exit 0)) (.join [2, 4, 7, 10, 11, 12] [] (.block 1 (.seq (.reg [mM 14 12, mU 15 (.idxAddrSl 15 10 12), mR 16 (.ldN 15 15), mN 9 (.newz [0, 0, .b false, .sl 0 none 0 0, .b false, .sl 0 none 0 0, .b false, .sl 0 none 0 0, .b false, .sl 0 none 0 0, .b false, 0, .sl 0 none 0 0, 0, 0]), mM 8 14, mZ (.st 15 9 16)]) (.seq (.reg [mR 17 (.ldN 15 9), mR 18 (.ldN 5 4), mM 19 2, mQ 20 185 [17, 18, 19] c185]) (.cond 20 (.reg [mM 21 7, mM 22 8, mN 23 (.bslice 1 1 [0] [(0, (1, 22))]), mY 24 (.append 1 8 21 23), mM 7 24]) .skip)))) (.reg [mB .add 25 12 (.c 1), mM 12 25]))))))) (.seq (.reg [mM 26 7, mM 6 26]) .ret)))
def r110 : List ARes := [.t 6]
theorem k110 (c185 : T 185) : compFn Tryz.prog 110 = some ⟨27, (s110 c185).er, r110⟩ := by kernel_rfl
abbrev q110 (O : Ops Tryz.prog) (c185 : T 185) := curF 3 (sfn O (s110 c185) r110)
def g110 : { g // g = q110 } := by
  have h : q110 = q110 := rfl
  conv at h => rhs; reduce
  exact ⟨_, h.symm⟩
def C110 : T 110 := mkRun 3 (k110 C185) (by decide) (g110.1 (theOps Tryz.prog) C185) (by rw [g110.2])
def s54 (c98 : T 98) (c108 : T 108) (c109 : T 109) (c110 : T 110) : S := .seq (.reg [mK 4 (.b false)]) (.join [0, 1, 5, 6, 7] [] (.draw 0 [⟨[], [dP 0 12 (.mv 0) 0, dP 1 13 (.nilCheck 12) 0, dP 2 14 (.fieldAddr 12 13) 0, dR 3 15 (.ld1 14) 0, dP 4 16 (.mv 1) 0, dP 5 17 (.nilCheck 16) 0, dP 6 18 (.fieldAddr 34 17) 0, dR 7 19 (.ldN 5 18) 0], some (mQ 20 108 [15, 19] c108)⟩, ⟨[], [dP 9 11 (.mv 20) 1, dP 10 21 (.extract 0 11) 1, dP 11 22 (.extract 1 11) 1, dP 12 23 (.extract 2 11) 1, dP 13 5 (.mv 21) 1, dP 14 6 (.mv 22) 1, dP 15 7 (.mv 23) 1], none⟩]) (.join [0, 1] [] (.seq (.reg [mM 24 7]) (.cond 24 (.seq (.reg [mM 25 1, mM 26 1, mM 27 1, mM 28 5, mM 29 6, mM 30 0, mU 31 (.nilCheck 30), mF 14 32 31, mL 33 32, mM 34 5, mR 35 (.lookup (.one .i) (.p none) false 33 34), mU 36 (.nilCheck 25), mF 39 37 36, mZ (.st 1 37 28), mU 38 (.nilCheck 26), mF 40 39 38, mZ (.st 1 39 29), mU 40 (.nilCheck 27), mF 42 41 40, mZ (.st 1 41 35)]) (.seq (.reg [mM 42 1, mU 43 (.nilCheck 42), mF 42 44 43, mL 45 44, mR 46 (.peq true 45 (.c (.p none))), mM 4 46]) .ret)) .skip)) (.join [0, 1] [] (.seq (.reg [mM 47 1, mU 48 (.nilCheck 47), mF 34 49 48, mF 0 50 49, mL 51 50, mB .eql 52 51 (.c 6), mM 53 52, (mM 54 1).g 53 true, (mU 55 (.nilCheck 54)).g 53 true, (mF 26 56 55).g 53 true, (mF 4 57 56).g 53 true, (mL 58 57).g 53 true, (mB .andNot 59 58 (.c 8)).g 53 true, (mB .neq 60 59 (.c 2)).g 53 true, (mM 61 60).g 53 true, (mM 62 1).g 61 false, (mU 63 (.nilCheck 62)).g 61 false, (mF 33 64 63).g 61 false, (mL 65 64).g 61 false, (mB .neq 66 65 (.c (.s []))).g 61 false, (mU 67 (.pick 61 (.c (.b true)) 66)).g 53 true, mU 68 (.pick 53 67 (.c (.b false)))]) (.cond 68 (.seq (.reg [mM 69 0, mU 70 (.nilCheck 69), mF 15 71 70, mF 5 72 71, mQ 73 98 [72] c98, mM 4 73]) .ret) .skip)) (.join [0, 1, 5, 8] [] (.draw 0 [⟨[], [dP 0 75 (.mv 0) 0, dP 1 76 (.nilCheck 75) 0, dP 2 77 (.fieldAddr 12 76) 0, dR 3 78 (.ld1 77) 0, dP 4 79 (.mv 1) 0, dP 5 80 (.nilCheck 79) 0, dP 6 81 (.fieldAddr 34 80) 0, dR 7 82 (.ldN 5 81) 0], some (mQ 83 109 [78, 82] c109)⟩, ⟨[], [dP 9 74 (.mv 83) 1, dP 10 84 (.extract 0 74) 1, dP 11 85 (.extract 1 74) 1, dP 12 5 (.mv 84) 1, dP 13 8 (.mv 85) 1], none⟩]) (.join [0, 1, 5] [] (.seq (.reg [mM 86 8, mB .gtr 87 86 (.c 0)]) (.cond 87 (.seq (.reg [mM 88 0, mU 89 (.nilCheck 88), mF 15 90 89, mF 10 91 90, mL 92 91, mB .add 93 92 (.c 1), mU 94 (.nilCheck 88), mF 15 95 94, mF 10 96 95, mZ (.st 1 96 93)]) (.reg [mM 97 0, mU 98 (.nilCheck 97), mF 14 99 98, mL 100 99, mM 101 8, mZ (.del (.one .i) 100 101)])) .skip)) (.join [0, 1, 5, 9] [] (.draw 11 [⟨[], [dP 0 102 (.mv 1) 0, dP 1 103 (.nilCheck 102) 0, dP 2 104 (.fieldAddr 34 103) 0, dR 3 105 (.ldN 5 104) 0, dP 4 106 (.mv 0) 0, dP 5 107 (.nilCheck 106) 0, dP 6 108 (.fieldAddr 9 107) 0, dR 7 109 (.ld1 108) 0, dP 8 110 (.build [0, .i .u32 0, .i .u32 0, 0, 0, .sl 0 none 0 0, .sl 0 none 0 0, .sl 0 none 0 0, .p none, .p none, .p none, .p none, .b false] [(0, (5, 105)), (5, (1, 109))]) 0, ⟨9, ⟨some 111, .alloc (.box 110), none⟩, 0⟩, dP 10 9 (.mv 111) 0], none⟩]) (.join [0, 1, 5, 9] [] (.seq (.reg [mK 112 0]) (.block 0 (.loop [112] [0, 1, 5, 9] (.seq (.reg [mB .lss 113 112 (.c 2)]) (.seq (.cond 113 .skip (.exit 0)) (.seq (.block 1 (.seq (.reg [mM 114 112, mM 10 114]) (.draw 0 [⟨[], [dP 0 115 (.mv 9) 1, dP 1 116 (.mv 10) 1, dP 2 117 (.mv 9) 0, dP 3 118 (.nilCheck 117) 0, dP 4 119 (.fieldAddr 5 118) 0, dR 5 120 (.ld1 119) 0, dP 6 121 (.mv 9) 0, dP 7 122 (.nilCheck 121) 0, dP 8 123 (.fieldAddr 0 122) 0, dR 9 124 (.ldN 5 123) 0, dP 10 125 (.mv 10) 0, dP 12 127 (.nilCheck 115) 1, dP 13 128 (.fieldAddr 6 127) 1], some (mQ 126 110 [120, 124, 125] c110)⟩, ⟨[], [dP 14 129 (.idxAddrArr 2 1 128 116) 1], some (mZ (.st 1 129 126))⟩, ⟨[], [], none⟩]))) (.reg [mB .add 130 112 (.c 1), mM 112 130]))))))) (.join [1, 5, 9] [] (.reg [mM 131 0, mU 132 (.nilCheck 131), mF 14 133 132, mL 134 133, mM 135 5, mM 136 9, mZ (.mapUpd (.one .i) 134 135 136)]) (.seq (.reg [mM 137 1, mM 138 1, mM 139 1, mM 140 1, mM 141 5, mM 142 9, mU 143 (.nilCheck 137), mF 39 144 143, mZ (.st 1 144 141), mU 145 (.nilCheck 138), mF 40 146 145, mZ (.st 1 146 (.c 0)), mU 147 (.nilCheck 139), mF 42 148 147, mZ (.st 1 148 142), mU 149 (.nilCheck 140), mF 41 150 149, mZ (.st 1 150 (.c (.b true)))]) (.seq (.reg [mK 4 (.b true)]) .ret))))))))))
def r54 : List ARes := [.t 4]
theorem k54 (c98 : T 98) (c108 : T 108) (c109 : T 109) (c110 : T 110) : compFn Tryz.prog 54 = some ⟨151, (s54 c98 c108 c109 c110).er, r54⟩ := by kernel_rfl
abbrev q54 (O : Ops Tryz.prog) (c98 : T 98) (c108 : T 108) (c109 : T 109) (c110 : T 110) := curF 2 (sfn O (s54 c98 c108 c109 c110) r54)
def g54 : { g // g = q54 } := by
  have h : q54 = q54 := rfl
  conv at h => rhs; reduce
  exact ⟨_, h.symm⟩
def C54 : T 54 := mkRun 2 (k54 C98 C108 C109 C110) (by decide) (g54.1 (theOps Tryz.prog) C98 C108 C109 C110) (by rw [g54.2])
def A54 : U := ⟨54, C54⟩
def s55 (c98 : T 98) : S := .seq (.reg [mK 4 (.b false)]) (.seq (.seq (.reg [mM 5 1, mU 6 (.nilCheck 5), mF 42 7 6, mL 8 7, mU 9 (.nilCheck 8), mF 12 10 9, mL 11 10]) (.cond 11 (.seq (.reg [mM 12 0, mU 13 (.nilCheck 12), mF 15 14 13, mF 4 15 14, mQ 16 98 [15] c98, mM 4 16]) .ret) .skip)) (.seq (.reg [mK 4 (.b true)]) .ret))
def r55 : List ARes := [.t 4]
theorem k55 (c98 : T 98) : compFn Tryz.prog 55 = some ⟨17, (s55 c98).er, r55⟩ := by kernel_rfl
abbrev q55 (O : Ops Tryz.prog) (c98 : T 98) := curF 2 (sfn O (s55 c98) r55)
def g55 : { g // g = q55 } := by
  have h : q55 = q55 := rfl
  conv at h => rhs; reduce
  exact ⟨_, h.symm⟩
def C55 : T 55 := mkRun 2 (k55 C98) (by decide) (g55.1 (theOps Tryz.prog) C98) (by rw [g55.2])
def A55 : U := ⟨55, C55⟩
def s186 : S := .seq (.reg [mK 4 (.p none)]) (.join [0, 5] [] (.reg [mM 9 1, mU 10 (.mxmn false [9, .c 32]), mU 11 (.mxmn true [.c 1, 10]), mU 12 (.build [0, 0, .sl 0 none 0 0, .sl 0 none 0 0, .b false, .b false] [(0, (1, 11))]), mN 13 (.box 12), mM 5 13]) (.seq (.seq (.reg [mM 14 0, mU 15 (.lenSl 14), mK 16 0]) (.block 0 (.loop [16] [5, 14, 15] (.seq (.reg [mB .lss 17 16 15]) (.seq (.cond 17 .skip (.exit 0)) (.join [5, 14, 15, 16] [] (.block 1 (.join [5, 6, 7, 14, 15, 16] [] (.reg [mM 18 16, mU 19 (.idxAddrSl 8 14 16), mR 20 (.ldN 8 19), mN 7 (.newz [.s [], .b false, .b false, 0, 0, .b false, 0, 0]), mM 6 18, mZ (.st 8 7 20)]) (.join [5, 6, 7, 14, 15, 16] [] (.join [5, 6, 7, 14, 15, 16, 22] [] (.reg [mF 2 21 7, mL 22 21]) (.cond 22 (.seq (.draw 13 [⟨[], [dP 0 23 (.mv 5) 1, dP 1 24 (.mv 5) 0, dP 2 25 (.nilCheck 24) 0, dP 3 26 (.fieldAddr 3 25) 0, dR 4 27 (.ld1 26) 0, dR 5 28 (.ldN 8 7) 0, dP 6 29 (.mv 6) 0, dP 7 30 (.build [.s [], .b false, .b false, 0, 0, .b false, 0, 0, 0, .b false, 0, .b false, .p none, 0, .b false] [(0, (8, 28)), (8, (1, 29))]) 0, ⟨8, ⟨some 31, .alloc (.bslice 15 1 [.s [], .b false, .b false, 0, 0, .b false, 0, 0, 0, .b false, 0, .b false, .p none, 0, .b false] [(0, (15, 30))]), none⟩, 0⟩], some (mY 32 (.append 15 120 27 31))⟩, ⟨[], [dP 10 33 (.nilCheck 23) 1, dP 11 34 (.fieldAddr 3 33) 1], some (mZ (.st 1 34 32))⟩, ⟨[], [], none⟩]) (.exit 1)) .skip)) (.join [5, 6, 7, 14, 15, 16] [] (.join [5, 6, 7, 8, 14, 15, 16] [] (.reg [mM 35 5, mU 36 (.nilCheck 35), mF 2 37 36, mL 38 37, mU 39 (.lenSl 38), mM 8 39]) (.join [5, 6, 7, 8, 14, 15, 16, 50] [] (.reg [mM 40 8, mB .gtr 41 40 (.c 0), mM 42 41, (mF 5 43 7).g 42 true, (mL 44 43).g 42 true, mU 45 (.pick 42 44 (.c (.b false))), mM 46 45, (mF 7 47 7).g 46 true, (mL 48 47).g 46 true, (mB .gtr 49 48 (.c 0)).g 46 true, mU 50 (.pick 46 49 (.c (.b false)))]) (.cond 50 (.draw 0 [⟨[], [dP 0 51 (.mv 5) 0, dP 1 52 (.nilCheck 51) 0, dP 2 53 (.fieldAddr 2 52) 0, dR 3 54 (.ld1 53) 0, dP 4 55 (.mv 8) 0, dP 5 56 (.bin .sub 55 (.c 1)) 0, dP 6 57 (.idxAddrSl 1 54 56) 0, dR 7 58 (.ld1 57) 0, dP 8 59 (.mv 5) 0, dP 9 60 (.nilCheck 59) 0, dP 10 61 (.fieldAddr 2 60) 0, dR 11 62 (.ld1 61) 0, dP 12 63 (.mv 8) 0, dP 13 64 (.bin .sub 63 (.c 1)) 0, dP 14 65 (.idxAddrSl 1 62 64) 0, dR 15 66 (.ld1 65) 0, dP 16 67 (.fieldAddr 6 7) 1, dR 17 68 (.ld1 67) 1, dP 18 69 (.fieldAddr 7 7) 1, dR 19 70 (.ld1 69) 1, dP 20 71 (.bin .add 68 70) 1, dP 21 72 (.nilCheck 58) 0, dP 22 73 (.fieldAddr 11 72) 0], some (mZ (.st 1 73 (.c (.b false))))⟩, ⟨[⟨some 68, .read (.ld1 67), none⟩, ⟨some 70, .read (.ld1 69), none⟩], [dP 24 74 (.nilCheck 66) 1, dP 25 75 (.fieldAddr 10 74) 1], some (mZ (.st 1 75 71))⟩, ⟨[], [], none⟩]) .skip))) (.draw 20 [⟨[], [dP 0 76 (.mv 5) 1, dP 1 77 (.mv 5) 0, dP 2 78 (.nilCheck 77) 0, dP 3 79 (.fieldAddr 2 78) 0, dR 4 80 (.ld1 79) 0, dR 5 81 (.ldN 8 7) 0, dP 6 82 (.mv 6) 0, dP 7 83 (.mv 5) 0, dP 8 84 (.nilCheck 83) 0, dP 9 85 (.fieldAddr 2 84) 0, dR 10 86 (.ld1 85) 0, dP 11 87 (.lenSl 86) 0, dP 12 88 (.bin .eql 87 (.c 0)) 0, dP 13 89 (.build [.s [], .b false, .b false, 0, 0, .b false, 0, 0, 0, .b false, 0, .b false, .p none, 0, .b false] [(0, (8, 81)), (8, (1, 82)), (9, (1, 88)), (11, (1, .c (.b true)))]) 0, ⟨14, ⟨some 90, .alloc (.box 89), none⟩, 0⟩, ⟨15, ⟨some 91, .alloc (.bslice 1 1 [.p none] [(0, (1, 90))]), none⟩, 0⟩], some (mY 92 (.append 1 8 80 91))⟩, ⟨[], [dP 17 93 (.nilCheck 76) 1, dP 18 94 (.fieldAddr 2 93) 1], some (mZ (.st 1 94 92))⟩, ⟨[], [], none⟩]))))) (.reg [mB .add 95 16 (.c 1), mM 16 95]))))))) (.seq (.reg [mM 96 5, mM 4 96]) .ret)))
def r186 : List ARes := [.t 4]
theorem k186 : compFn Tryz.prog 186 = some ⟨97, (s186).er, r186⟩ := by kernel_rfl
abbrev q186 (O : Ops Tryz.prog) := curF 2 (sfn O (s186) r186)
def g186 : { g // g = q186 } := by
  have h : q186 = q186 := rfl
  conv at h => rhs; reduce
  exact ⟨_, h.symm⟩
def C186 : T 186 := mkRun 2 (k186) (by decide) (g186.1 (theOps Tryz.prog)) (by rw [g186.2])
def s187 : S := .seq (.reg [mK 6 (.p none)]) (.seq (.reg [mM 7 0, mM 8 1, mY 9 (.append 1 16 (.c (.sl 0 none 0 0)) 8), mM 10 2, mY 11 (.append 1 1 (.c (.sl 0 none 0 0)) 10), mU 12 (.build [.p none, .sl 0 none 0 0, .sl 0 none 0 0, 0, 0, .i .u8 0, .i .u8 0, .i .u8 0, .i .u8 0, .i .u8 0, .i .u8 0, .i .u8 0, .i .u8 0, .i .u8 0, .i .u8 0, .i .u8 0, .i .u8 0, .i .u8 0, .i .u8 0, .i .u8 0, .i .u8 0] [(0, (1, 7)), (1, (1, 9)), (2, (1, 11))]), mN 13 (.box 12), mM 6 13]) .ret)
def r187 : List ARes := [.t 6]
theorem k187 : compFn Tryz.prog 187 = some ⟨14, (s187).er, r187⟩ := by kernel_rfl
abbrev q187 (O : Ops Tryz.prog) := curF 3 (sfn O (s187) r187)
def g187 : { g // g = q187 } := by
  have h : q187 = q187 := rfl
  conv at h => rhs; reduce
  exact ⟨_, h.symm⟩
def C187 : T 187 := mkRun 3 (k187) (by decide) (g187.1 (theOps Tryz.prog)) (by rw [g187.2])
def s111 (c45 : T 45) (c46 : T 46) (c186 : T 186) (c187 : T 187) : S := .seq (.reg [mK 6 (.p none)]) (.join [0, 1, 2, 7] [] (.reg [mU 19 (.build [.p none, .sl 0 none 0 0, .sl 0 none 0 0, 0] []), mN 20 (.box 19), mM 7 20]) (.seq (.reg [mK 8 (.sl 0 none 0 0), mK 9 (.sl 0 none 0 0)]) (.seq (.reg [mK 10 (.sl 0 none 0 0)]) (.seq (.seq (.reg [mM 21 1, mU 22 (.lenSl 21), mK 23 0]) (.block 0 (.loop [8, 9, 10, 23] [0, 2, 7, 21, 22] (.seq (.reg [mB .lss 24 23 22]) (.seq (.cond 24 .skip (.exit 0)) (.join [0, 2, 7, 8, 9, 10, 21, 22, 23] [] (.block 1 (.join [0, 2, 7, 8, 9, 10, 12, 21, 22, 23] [] (.reg [mU 25 (.idxAddrSl 1 21 23), mL 26 25, mM 12 26]) (.join [0, 2, 7, 8, 9, 10, 12, 21, 22, 23] [] (.seq (.reg [mM 27 12, mB .lss 28 27 (.c 0), mM 29 28, (mM 30 12).g 29 false, (mM 31 0).g 29 false, (mU 32 (.lenSl 31)).g 29 false, (mB .geq 33 30 32).g 29 false, mU 34 (.pick 29 (.c (.b true)) 33)]) (.cond 34 (.exit 1) .skip)) (.join [0, 2, 7, 8, 9, 10, 12, 13, 21, 22, 23] [] (.draw 21 [⟨[], [dP 0 35 (.mv 0) 1, dP 1 36 (.mv 12) 1, dP 2 37 (.idxAddrSl 15 35 36) 1, dR 3 38 (.ldN 15 37) 1, dP 4 39 (.mv 0) 0, dP 5 40 (.mv 12) 0, dP 6 41 (.idxAddrSl 15 39 40) 0, dP 7 42 (.fieldAddr 12 41) 0, dR 8 43 (.ld1 42) 0, dP 9 44 (.mv 2) 0, dP 11 46 (.mv 0) 1, dP 12 47 (.mv 12) 1, dP 13 48 (.idxAddrSl 15 46 47) 1, dP 14 49 (.fieldAddr 12 48) 1, dR 15 50 (.ld1 49) 1, dP 16 51 (.lenSl 50) 1, ⟨17, ⟨some 52, .alloc (.mkslice 1 1 [.b false] 51 51), none⟩, 1⟩], some (mQ 45 186 [43, 44] c186)⟩, ⟨[⟨some 38, .read (.ldN 15 37), none⟩, ⟨some 50, .read (.ld1 49), none⟩], [dP 18 53 (.build [0, 0, .b false, .sl 0 none 0 0, .b false, .sl 0 none 0 0, .b false, .sl 0 none 0 0, .b false, .sl 0 none 0 0, .b false, 0, .sl 0 none 0 0, 0, 0, .p none, .sl 0 none 0 0, .b false] [(0, (15, 38)), (15, (1, 45)), (16, (1, 52))]) 1, ⟨19, ⟨some 54, .alloc (.box 53), none⟩, 1⟩, dP 20 13 (.mv 54) 1], none⟩]) (.join [0, 2, 7, 8, 9, 10, 12, 13, 21, 22, 23] [] (.reg [mM 55 7, mM 56 7, mU 57 (.nilCheck 56), mF 2 58 57, mL 59 58, mM 60 13, mN 61 (.bslice 1 1 [.p none] [(0, (1, 60))]), mY 62 (.append 1 8 59 61), mU 63 (.nilCheck 55), mF 2 64 63, mZ (.st 1 64 62)]) (.join [0, 2, 7, 8, 9, 10, 13, 21, 22, 23, 69, 70, 71] [] (.reg [mM 65 0, mM 66 12, mU 67 (.idxAddrSl 15 65 66), mF 12 68 67, mL 69 68, mU 70 (.lenSl 69), mK 71 0]) (.block 2 (.loop [8, 9, 10, 71] [0, 2, 7, 13, 21, 22, 23, 69, 70] (.seq (.reg [mB .lss 72 71 70]) (.seq (.cond 72 .skip (.exit 2)) (.join [0, 2, 7, 8, 9, 10, 13, 21, 22, 23, 69, 70, 71] [] (.block 3 (.join [0, 2, 7, 8, 9, 10, 13, 14, 15, 21, 22, 23, 69, 70, 71] [] (.reg [mM 73 71, mU 74 (.idxAddrSl 8 69 71), mR 75 (.ldN 8 74), mN 15 (.newz [.s [], .b false, .b false, 0, 0, .b false, 0, 0]), mM 14 73, mZ (.st 8 15 75)]) (.join [0, 2, 7, 8, 9, 10, 13, 14, 15, 21, 22, 23, 69, 70, 71] [] (.seq (.reg [mF 0 76 15, mL 77 76, mU 78 (.lenS 77), mM 16 78]) (.seq (.reg [mM 79 16, mB .eql 80 79 (.c 0), mM 81 80, (mM 82 16).g 81 false, (mB .gtr 83 82 (.c 16)).g 81 false, mU 84 (.pick 81 (.c (.b true)) 83)]) (.cond 84 (.exit 3) .skip))) (.join [0, 2, 7, 8, 9, 10, 13, 15, 21, 22, 23, 69, 70, 71] [] (.reg [mM 85 7, mM 86 7, mU 87 (.nilCheck 86), mF 1 88 87, mL 89 88, mM 90 13, mM 91 14, mU 92 (.build [.p none, 0] [(0, (1, 90)), (1, (1, 91))]), mN 93 (.bslice 2 1 [.p none, 0] [(0, (2, 92))]), mY 94 (.append 2 16 89 93), mU 95 (.nilCheck 85), mF 1 96 95, mZ (.st 1 96 94)]) (.draw 19 [⟨[], [dP 0 97 (.mv 8) 0, dP 1 98 (.fieldAddr 0 15) 0, dR 2 99 (.ld1 98) 0, ⟨3, ⟨some 100, .alloc (.bslice 1 1 [.s []] [(0, (1, 99))]), none⟩, 0⟩, dP 5 102 (.mv 9) 2, dP 6 103 (.fieldAddr 0 15) 1, dR 7 104 (.ld1 103) 1, dP 11 108 (.mv 10) 3, dP 12 109 (.fieldAddr 1 15) 3, dR 13 110 (.ld1 109) 3, ⟨14, ⟨some 111, .alloc (.bslice 1 1 [.b false] [(0, (1, 110))]), none⟩, 3⟩], some (mY 101 (.append 1 16 97 100))⟩, ⟨[⟨some 104, .read (.ld1 103), none⟩, ⟨some 110, .read (.ld1 109), none⟩], [], some (mQ 105 45 [104] c45)⟩, ⟨[⟨some 110, .read (.ld1 109), none⟩], [⟨9, ⟨some 106, .alloc (.bslice 1 1 [.s []] [(0, (1, 105))]), none⟩, 2⟩], some (mY 107 (.append 1 16 102 106))⟩, ⟨[⟨some 110, .read (.ld1 109), none⟩], [], some (mY 112 (.append 1 1 108 111))⟩, ⟨[], [dP 16 8 (.mv 101) 4, dP 17 9 (.mv 107) 4, dP 18 10 (.mv 112) 4], none⟩]))))) (.reg [mB .add 113 71 (.c 1), mM 71 113])))))))))))) (.reg [mB .add 114 23 (.c 1), mM 23 114]))))))) (.seq (.reg [mM 116 9, mQ 117 46 [116, .c 4096] c46, mM 115 117, mU 118 (.extract 0 115), mU 119 (.extract 1 115), mM 17 118, mM 18 119]) (.seq (.reg [mM 120 7, mM 121 17, mM 122 8, mM 123 10, mQ 124 187 [121, 122, 123] c187, mU 125 (.nilCheck 120), mF 0 126 125, mZ (.st 1 126 124)]) (.seq (.reg [mM 127 7, mM 6 127]) .ret)))))))
def r111 : List ARes := [.t 6]
theorem k111 (c45 : T 45) (c46 : T 46) (c186 : T 186) (c187 : T 187) : compFn Tryz.prog 111 = some ⟨128, (s111 c45 c46 c186 c187).er, r111⟩ := by kernel_rfl
abbrev q111 (O : Ops Tryz.prog) (c45 : T 45) (c46 : T 46) (c186 : T 186) (c187 : T 187) := curF 3 (sfn O (s111 c45 c46 c186 c187) r111)
def g111 : { g // g = q111 } := by
  have h : q111 = q111 := rfl
  conv at h => rhs; reduce
  exact ⟨_, h.symm⟩
def C111 : T 111 := mkRun 3 (k111 C45 C46 C186 C187) (by decide) (g111.1 (theOps Tryz.prog) C45 C46 C186 C187) (by rw [g111.2])
def s145 : S := .seq (.reg [mN 1 (.box 0), mK 2 .nf]) (.seq (.reg [mU 3 (.mkFunc 221 [] [1]), mM 2 3]) .ret)
def r145 : List ARes := [.t 2]
theorem k145 : compFn Tryz.prog 145 = some ⟨4, (s145).er, r145⟩ := by kernel_rfl
abbrev q145 (O : Ops Tryz.prog) := curF 1 (sfn O (s145) r145)
def g145 : { g // g = q145 } := by
  have h : q145 = q145 := rfl
  conv at h => rhs; reduce
  exact ⟨_, h.symm⟩
def C145 : T 145 := mkRun 1 (k145) (by decide) (g145.1 (theOps Tryz.prog)) (by rw [g145.2])
def s190 : S := .seq (.reg [mK 2 (.b false)]) (.seq (.seq (.reg [mM 5 0, mU 6 (.nilCheck 5), mF 2 7 6, mL 8 7, mU 9 (.lenSl 8), mK 10 0]) (.block 0 (.loop [10] [0, 8, 9] (.seq (.reg [mB .lss 11 10 9]) (.seq (.cond 11 .skip (.exit 0)) (.seq (.block 1 (.seq (.reg [mU 12 (.idxAddrSl 1 8 10), mL 13 12, mM 4 13]) (.seq (.reg [mM 14 4, mU 15 (.nilCheck 14), mF 14 16 15, mL 17 16, mU 18 (.un .not 17)]) (.cond 18 (.seq (.reg [mK 2 (.b false)]) .ret) .skip)))) (.reg [mB .add 19 10 (.c 1), mM 10 19]))))))) (.seq (.reg [mM 20 0, mU 21 (.nilCheck 20), mF 4 22 21, mL 23 22, mU 24 (.un .not 23), mM 2 24]) .ret))
def r190 : List ARes := [.t 2]
theorem k190 : compFn Tryz.prog 190 = some ⟨25, (s190).er, r190⟩ := by kernel_rfl
abbrev q190 (O : Ops Tryz.prog) := curF 1 (sfn O (s190) r190)
def g190 : { g // g = q190 } := by
  have h : q190 = q190 := rfl
  conv at h => rhs; reduce
  exact ⟨_, h.symm⟩
def C190 : T 190 := mkRun 1 (k190) (by decide) (g190.1 (theOps Tryz.prog)) (by rw [g190.2])
def s189 (c190 : T 190) : S := .seq (.reg [mK 2 (.b false)]) (.seq (.reg [mM 3 0, mU 4 (.nilCheck 3), mF 15 5 4, mL 6 5, mQ 7 190 [6] c190, mM 2 7]) .ret)
def r189 : List ARes := [.t 2]
theorem k189 (c190 : T 190) : compFn Tryz.prog 189 = some ⟨8, (s189 c190).er, r189⟩ := by kernel_rfl
abbrev q189 (O : Ops Tryz.prog) (c190 : T 190) := curF 1 (sfn O (s189 c190) r189)
def g189 : { g // g = q189 } := by
  have h : q189 = q189 := rfl
  conv at h => rhs; reduce
  exact ⟨_, h.symm⟩
def C189 : T 189 := mkRun 1 (k189 C190) (by decide) (g189.1 (theOps Tryz.prog) C190) (by rw [g189.2])
def A189 : U := ⟨189, C189⟩
def s267 : S := .seq (.reg [mN 2 (.box 0), mK 4 (.b false)]) (.seq (.reg [mF 5 5 2, mL 6 5, mM 7 6, (mM 8 1).g 7 false, (mF 0 9 2).g 7 false, (mL 10 9).g 7 false, (mU 11 (.lenS 10)).g 7 false, (mB .sub 12 8 11).g 7 false, (mF 3 13 2).g 7 false, (mL 14 13).g 7 false, (mB .geq 15 12 14).g 7 false, (mM 16 15).g 7 false, (mF 4 17 2).g 16 true, (mL 18 17).g 16 true, (mB .leq 19 18 (.c 0)).g 16 true, (mM 20 19).g 16 true, (mM 21 1).g 20 false, (mF 3 22 2).g 20 false, (mL 23 22).g 20 false, (mF 4 24 2).g 20 false, (mL 25 24).g 20 false, (mB .add 26 23 25).g 20 false, (mB .leq 27 21 26).g 20 false, (mU 28 (.pick 20 (.c (.b true)) 27)).g 16 true, (mU 29 (.pick 16 28 (.c (.b false)))).g 7 false, mU 30 (.pick 7 (.c (.b true)) 29), mM 4 30]) .ret)
def r267 : List ARes := [.t 4]
theorem k267 : compFn Tryz.prog 267 = some ⟨31, (s267).er, r267⟩ := by kernel_rfl
abbrev q267 (O : Ops Tryz.prog) := curF 2 (sfn O (s267) r267)
def g267 : { g // g = q267 } := by
  have h : q267 = q267 := rfl
  conv at h => rhs; reduce
  exact ⟨_, h.symm⟩
def C267 : T 267 := mkRun 2 (k267) (by decide) (g267.1 (theOps Tryz.prog)) (by rw [g267.2])
def s266 (c267 : T 267) : S := .seq (.reg [mK 4 (.b false)]) (.seq (.draw 0 [⟨[], [dP 0 5 (.mv 0) 0, dP 1 6 (.nilCheck 5) 0, dP 2 7 (.fieldAddr 8 6) 0, dR 3 8 (.ld1 7) 0, dR 4 9 (.ld1 1) 0, dP 5 10 (.lenSl 9) 0, dP 6 11 (.bin .lss 8 10) 0, dP 7 12 (.mv 11) 0, ⟨8, ⟨some 13, .read (.ld1 1), some (12, true)⟩, 0⟩, ⟨9, ⟨some 14, .pure (.mv 0), some (12, true)⟩, 0⟩, ⟨10, ⟨some 15, .pure (.nilCheck 14), some (12, true)⟩, 0⟩, ⟨11, ⟨some 16, .pure (.fieldAddr 8 15), some (12, true)⟩, 0⟩, ⟨12, ⟨some 17, .read (.ld1 16), some (12, true)⟩, 0⟩, ⟨13, ⟨some 18, .pure (.idxAddrSl 1 13 17), some (12, true)⟩, 0⟩, ⟨14, ⟨some 19, .read (.ld1 18), some (12, true)⟩, 0⟩, dP 15 20 (.pick 12 19 (.c (.b false))) 0, dP 16 21 (.mv 20) 0, ⟨17, ⟨some 22, .pure (.mv 0), some (21, true)⟩, 0⟩, ⟨18, ⟨some 23, .pure (.nilCheck 22), some (21, true)⟩, 0⟩, ⟨19, ⟨some 24, .pure (.fieldAddr 0 23), some (21, true)⟩, 0⟩, ⟨20, ⟨some 25, .read (.ldN 8 24), some (21, true)⟩, 0⟩, ⟨21, ⟨some 26, .read (.ld1 2), some (21, true)⟩, 0⟩, ⟨22, ⟨some 27, .pure (.nilCheck 26), some (21, true)⟩, 0⟩, ⟨23, ⟨some 28, .pure (.fieldAddr 1 27), some (21, true)⟩, 0⟩, ⟨24, ⟨some 29, .read (.ld1 28), some (21, true)⟩, 0⟩], some ((mQ 30 267 [25, 29] c267).g 21 true)⟩, ⟨[], [dP 26 31 (.pick 21 30 (.c (.b false))) 1, dP 27 4 (.mv 31) 1], none⟩]) .ret)
def r266 : List ARes := [.t 4]
theorem k266 (c267 : T 267) : compFn Tryz.prog 266 = some ⟨32, (s266 c267).er, r266⟩ := by kernel_rfl
abbrev q266 (O : Ops Tryz.prog) (c267 : T 267) := curF 3 (sfn O (s266 c267) r266)
def g266 : { g // g = q266 } := by
  have h : q266 = q266 := rfl
  conv at h => rhs; reduce
  exact ⟨_, h.symm⟩
def C266 : T 266 := mkRun 3 (k266 C267) (by decide) (g266.1 (theOps Tryz.prog) C267) (by rw [g266.2])
def A266 : U := ⟨266, C266⟩
def s324 : S := .seq (.reg [mN 3 (.box 0), mK 6 (.b false)]) (.join [1, 3, 7] [] (.reg [mM 8 2, mF 6 9 3, mL 10 9, mB .add 11 8 10, mM 7 11]) (.seq (.reg [mM 12 1, mF 0 13 3, mL 14 13, mU 15 (.lenS 14), mB .sub 16 12 15, mM 17 7, mB .geq 18 16 17, mM 19 18, (mF 7 20 3).g 19 true, (mL 21 20).g 19 true, (mB .leq 22 21 (.c 0)).g 19 true, (mM 23 22).g 19 true, (mM 24 1).g 23 false, (mM 25 7).g 23 false, (mF 7 26 3).g 23 false, (mL 27 26).g 23 false, (mB .add 28 25 27).g 23 false, (mB .leq 29 24 28).g 23 false, (mU 30 (.pick 23 (.c (.b true)) 29)).g 19 true, mU 31 (.pick 19 30 (.c (.b false))), mM 6 31]) .ret))
def r324 : List ARes := [.t 6]
theorem k324 : compFn Tryz.prog 324 = some ⟨32, (s324).er, r324⟩ := by kernel_rfl
abbrev q324 (O : Ops Tryz.prog) := curF 3 (sfn O (s324) r324)
def g324 : { g // g = q324 } := by
  have h : q324 = q324 := rfl
  conv at h => rhs; reduce
  exact ⟨_, h.symm⟩
def C324 : T 324 := mkRun 3 (k324) (by decide) (g324.1 (theOps Tryz.prog)) (by rw [g324.2])
def s268 (c324 : T 324) : S := .seq (.reg [mK 8 (.b false)]) (.seq (.seq (.reg [mM 10 1, mR 11 (.peq false 10 (.c (.p none)))]) (.cond 11 (.seq (.reg [mK 8 (.b false)]) .ret) .skip)) (.seq (.join [0, 2, 3, 9] [] (.reg [mM 12 1, mU 13 (.nilCheck 12), mF 12 14 13, mL 15 14, mM 9 15]) (.block 0 (.loop [9] [0, 2, 3] (.seq (.seq (.reg [mM 16 9, mR 17 (.peq true 16 (.c (.p none)))]) (.cond 17 .skip (.exit 0))) (.seq (.block 1 (.seq (.draw 0 [⟨[], [dP 0 22 (.mv 0) 0, dP 1 23 (.nilCheck 22) 0, dP 2 24 (.fieldAddr 0 23) 0, dR 3 25 (.ldN 8 24) 0, dP 4 26 (.mv 3) 0, dP 5 27 (.mv 9) 0, dP 6 28 (.nilCheck 27) 0, dP 7 29 (.fieldAddr 0 28) 0, dR 8 30 (.ld1 29) 0], some (mQ 31 324 [25, 26, 30] c324)⟩, ⟨[], [], none⟩]) (.cond 31 (.seq (.reg [mK 8 (.b true)]) .ret) .skip))) (.reg [mM 18 9, mU 19 (.nilCheck 18), mF 1 20 19, mL 21 20, mM 9 21])))))) (.seq (.reg [mM 32 2, mM 33 32, (mM 34 0).g 33 true, (mU 35 (.nilCheck 34)).g 33 true, (mF 0 36 35).g 33 true, (mR 37 (.ldN 8 36)).g 33 true, (mM 38 3).g 33 true, (mM 39 3).g 33 true, (mQ 40 324 [37, 38, 39] c324).g 33 true, mU 41 (.pick 33 40 (.c (.b false))), mM 8 41]) .ret)))
def r268 : List ARes := [.t 8]
theorem k268 (c324 : T 324) : compFn Tryz.prog 268 = some ⟨42, (s268 c324).er, r268⟩ := by kernel_rfl
abbrev q268 (O : Ops Tryz.prog) (c324 : T 324) := curF 4 (sfn O (s268 c324) r268)
def g268 : { g // g = q268 } := by
  have h : q268 = q268 := rfl
  conv at h => rhs; reduce
  exact ⟨_, h.symm⟩
def C268 : T 268 := mkRun 4 (k268 C324) (by decide) (g268.1 (theOps Tryz.prog) C324) (by rw [g268.2])
def s269 : S := .join [0, 1, 2] [] (.reg [mM 7 0, mM 8 0, mU 9 (.nilCheck 8), mF 14 10 9, mL 11 10, mM 12 11, (mM 13 2).g 12 false, mU 14 (.pick 12 (.c (.b true)) 13), mU 15 (.nilCheck 7), mF 14 16 15, mZ (.st 1 16 14)]) (.join [0, 1, 2] [] (.join [0, 1, 2, 20] [] (.reg [mM 17 0, mU 18 (.nilCheck 17), mF 11 19 18, mL 20 19]) (.cond 20 (.seq (.seq (.reg [mM 21 2, mM 22 21, (mM 23 0).g 22 true, (mU 24 (.nilCheck 23)).g 22 true, (mF 12 25 24).g 22 true, (mL 26 25).g 22 true, (mR 27 (.peq false 26 (.c (.p none)))).g 22 true, mU 28 (.pick 22 27 (.c (.b false)))]) (.cond 28 (.reg [mM 29 0, mM 30 0, mM 31 1, mU 32 (.build [0, .p none] [(0, (1, 31))]), mN 33 (.box 32), mU 34 (.nilCheck 29), mF 12 35 34, mZ (.st 1 35 33), mU 36 (.nilCheck 30), mF 13 37 36, mZ (.st 1 37 (.c 1))]) .skip)) .ret) .skip)) (.join [0, 1, 2, 6] [] (.reg [mM 38 0, mU 39 (.nilCheck 38), mF 12 40 39, mM 6 40]) (.join [0, 1, 2, 6] [] (.reg [mM 41 0, mU 42 (.nilCheck 41), mF 13 43 42, mZ (.st 1 43 (.c 0))]) (.join [0, 1, 2, 6] [] (.block 0 (.loop [6] [0, 1, 2] (.join [0, 1, 2, 6] [] (.seq (.reg [mM 44 6, mU 45 (.nilCheck 44), mL 46 45, mR 47 (.peq true 46 (.c (.p none)))]) (.cond 47 .skip (.exit 0))) (.block 1 (.join [0, 1, 2, 6, 60] [] (.draw 0 [⟨[], [dP 0 48 (.mv 6) 0, dP 1 49 (.nilCheck 48) 0, dR 2 50 (.ld1 49) 0, dP 3 51 (.nilCheck 50) 0, dP 4 52 (.fieldAddr 0 51) 0, dR 5 53 (.ld1 52) 0, dP 6 54 (.mv 0) 0, dP 7 55 (.nilCheck 54) 0, dP 8 56 (.fieldAddr 10 55) 0, dR 9 57 (.ld1 56) 0, dP 10 58 (.bin .add 53 57) 0, dP 11 59 (.mv 1) 0, dP 12 60 (.bin .gtr 58 59) 0], none⟩]) (.cond 60 (.seq (.reg [mM 61 6, mU 62 (.nilCheck 61), mL 63 62, mU 64 (.nilCheck 63), mF 1 65 64, mM 6 65]) (.reg [mM 66 0, mU 67 (.nilCheck 66), mF 13 68 67, mL 69 68, mB .add 70 69 (.c 1), mU 71 (.nilCheck 66), mF 13 72 71, mZ (.st 1 72 70)])) (.reg [mM 73 6, mM 74 6, mU 75 (.nilCheck 74), mL 76 75, mU 77 (.nilCheck 76), mF 1 78 77, mL 79 78, mU 80 (.nilCheck 73), mZ (.st 1 80 79)]))))))) (.join [0, 1, 6, 91] [] (.reg [mM 81 2, mM 82 81, (mM 83 1).g 82 true, (mM 84 0).g 82 true, (mU 85 (.nilCheck 84)).g 82 true, (mF 10 86 85).g 82 true, (mL 87 86).g 82 true, (mB .add 88 83 87).g 82 true, (mM 89 1).g 82 true, (mB .gtr 90 88 89).g 82 true, mU 91 (.pick 82 90 (.c (.b false)))]) (.cond 91 (.seq (.reg [mM 92 6, mM 93 1, mU 94 (.build [0, .p none] [(0, (1, 93))]), mN 95 (.box 94), mU 96 (.nilCheck 92), mZ (.st 1 96 95)]) (.reg [mM 97 0, mU 98 (.nilCheck 97), mF 13 99 98, mL 100 99, mB .add 101 100 (.c 1), mU 102 (.nilCheck 97), mF 13 103 102, mZ (.st 1 103 101)])) .skip))))))
def r269 : List ARes := []
theorem k269 : compFn Tryz.prog 269 = some ⟨104, (s269).er, r269⟩ := by kernel_rfl
abbrev q269 (O : Ops Tryz.prog) := curF 3 (sfn O (s269) r269)
def g269 : { g // g = q269 } := by
  have h : q269 = q269 := rfl
  conv at h => rhs; reduce
  exact ⟨_, h.symm⟩
def C269 : T 269 := mkRun 3 (k269) (by decide) (g269.1 (theOps Tryz.prog)) (by rw [g269.2])
def s194 (c268 : T 268) (c269 : T 269) (a266 : U) : S := .join [2, 3] [] (.reg [mN 2 (.box 0), mN 3 (.box 1), mK 4 (.b false)]) (.join [2, 3] [] (.seq (.reg [mL 12 2, mU 13 (.nilCheck 12), mF 5 14 13, mL 15 14]) (.cond 15 (.seq (.reg [mK 4 (.b true)]) .ret) .skip)) (.join [2, 3] [] (.reg [mL 16 2, mU 17 (.nilCheck 16), mF 1 18 17, mL 19 18, mB .add 20 19 (.c 1), mU 21 (.nilCheck 16), mF 1 22 21, mZ (.st 1 22 20)]) (.seq (.reg [mU 23 (.mkFunc 266 [] [3, 2]), mM 5 23]) (.join [2, 5, 6] [] (.reg [mL 24 2, mU 25 (.nilCheck 24), mF 2 26 25, mL 27 26, mU 28 (.lenSl 27), mN 29 (.mkslice 1 1 [.b false] 28 28), mM 6 29]) (.join [2, 5, 6] [] (.join [2, 5, 6, 33, 34, 35] [] (.reg [mL 30 2, mU 31 (.nilCheck 30), mF 2 32 31, mL 33 32, mU 34 (.lenSl 33), mK 35 0]) (.block 0 (.loop [35] [2, 5, 6, 33, 34] (.seq (.reg [mB .lss 36 35 34]) (.seq (.cond 36 .skip (.exit 0)) (.join [2, 5, 6, 33, 34, 35] [] (.block 1 (.join [2, 5, 6, 7, 8, 33, 34, 35] [] (.reg [mM 37 35, mU 38 (.idxAddrSl 1 33 35), mL 39 38, mM 7 37, mM 8 39]) (.join [2, 5, 6, 7, 8, 33, 34, 35] [] (.reg [mM 40 6, mM 41 7, mM 42 5, mM 43 8, mV 44 42 [43] [a266] [], mU 45 (.idxAddrSl 1 40 41), mZ (.st 1 45 44)]) (.join [2, 5, 6, 7, 8, 33, 34, 35, 56] [] (.reg [mM 46 6, mM 47 7, mU 48 (.idxAddrSl 1 46 47), mL 49 48, mM 50 49, (mM 51 8).g 50 true, (mU 52 (.nilCheck 51)).g 50 true, (mF 0 53 52).g 50 true, (mF 5 54 53).g 50 true, (mL 55 54).g 50 true, mU 56 (.pick 50 55 (.c (.b false)))]) (.cond 56 (.draw 0 [⟨[], [dP 0 57 (.mv 6) 1, dP 1 58 (.mv 7) 1, dP 2 59 (.mv 7) 0, dP 3 60 (.bin .gtr 59 (.c 0)) 0, dP 4 61 (.mv 60) 0, ⟨5, ⟨some 62, .pure (.mv 8), some (61, true)⟩, 0⟩, ⟨6, ⟨some 63, .read (.ld1 2), some (61, true)⟩, 0⟩, ⟨7, ⟨some 64, .pure (.nilCheck 63), some (61, true)⟩, 0⟩, ⟨8, ⟨some 65, .pure (.fieldAddr 2 64), some (61, true)⟩, 0⟩, ⟨9, ⟨some 66, .read (.ld1 65), some (61, true)⟩, 0⟩, ⟨10, ⟨some 67, .pure (.mv 7), some (61, true)⟩, 0⟩, ⟨11, ⟨some 68, .pure (.bin .sub 67 (.c 1)), some (61, true)⟩, 0⟩, ⟨12, ⟨some 69, .pure (.idxAddrSl 1 66 68), some (61, true)⟩, 0⟩, ⟨13, ⟨some 70, .read (.ld1 69), some (61, true)⟩, 0⟩, ⟨14, ⟨some 71, .pure (.mv 6), some (61, true)⟩, 0⟩, ⟨15, ⟨some 72, .pure (.mv 7), some (61, true)⟩, 0⟩, ⟨16, ⟨some 73, .pure (.bin .sub 72 (.c 1)), some (61, true)⟩, 0⟩, ⟨17, ⟨some 74, .pure (.idxAddrSl 1 71 73), some (61, true)⟩, 0⟩, ⟨18, ⟨some 75, .read (.ld1 74), some (61, true)⟩, 0⟩, ⟨19, ⟨some 76, .read (.ld1 2), some (61, true)⟩, 0⟩, ⟨20, ⟨some 77, .pure (.nilCheck 76), some (61, true)⟩, 0⟩, ⟨21, ⟨some 78, .pure (.fieldAddr 1 77), some (61, true)⟩, 0⟩, ⟨22, ⟨some 79, .read (.ld1 78), some (61, true)⟩, 0⟩], some ((mQ 80 268 [62, 70, 75, 79] c268).g 61 true)⟩, ⟨[], [dP 24 81 (.pick 61 80 (.c (.b false))) 1, dP 25 82 (.idxAddrSl 1 57 58) 1], some (mZ (.st 1 82 81))⟩, ⟨[], [], none⟩]) .skip))))) (.reg [mB .add 83 35 (.c 1), mM 35 83]))))))) (.join [2, 5] [] (.join [2, 5, 6, 87, 88, 89] [] (.reg [mL 84 2, mU 85 (.nilCheck 84), mF 2 86 85, mL 87 86, mU 88 (.lenSl 87), mK 89 0]) (.block 2 (.loop [89] [2, 5, 6, 87, 88] (.seq (.reg [mB .lss 90 89 88]) (.seq (.cond 90 .skip (.exit 2)) (.seq (.block 3 (.join [2, 5, 6, 9, 10, 87, 88, 89] [] (.reg [mM 91 89, mU 92 (.idxAddrSl 1 87 89), mL 93 92, mM 9 91, mM 10 93]) (.join [2, 5, 6, 10, 87, 88, 89] [] (.draw 0 [⟨[], [dP 0 94 (.mv 10) 0, dR 1 95 (.ld1 2) 0, dP 2 96 (.nilCheck 95) 0, dP 3 97 (.fieldAddr 1 96) 0, dR 4 98 (.ld1 97) 0, dP 5 99 (.mv 6) 0, dP 6 100 (.mv 9) 0, dP 7 101 (.idxAddrSl 1 99 100) 0, dR 8 102 (.ld1 101) 0], some (mQ 103 269 [94, 98, 102] c269)⟩, ⟨[], [], none⟩]) (.draw 0 [⟨[], [dR 0 104 (.ld1 2) 0, dR 1 105 (.ld1 2) 0, dP 2 106 (.nilCheck 105) 0, dP 3 107 (.fieldAddr 5 106) 0, dR 4 108 (.ld1 107) 0, dP 5 109 (.mv 108) 0, ⟨6, ⟨some 110, .pure (.mv 10), some (109, false)⟩, 0⟩, ⟨7, ⟨some 111, .pure (.nilCheck 110), some (109, false)⟩, 0⟩, ⟨8, ⟨some 112, .pure (.fieldAddr 13 111), some (109, false)⟩, 0⟩, ⟨9, ⟨some 113, .read (.ld1 112), some (109, false)⟩, 0⟩, ⟨10, ⟨some 114, .read (.ld1 2), some (109, false)⟩, 0⟩, ⟨11, ⟨some 115, .pure (.nilCheck 114), some (109, false)⟩, 0⟩, ⟨12, ⟨some 116, .pure (.fieldAddr 0 115), some (109, false)⟩, 0⟩, ⟨13, ⟨some 117, .read (.ld1 116), some (109, false)⟩, 0⟩, ⟨14, ⟨some 118, .pure (.bin .gtr 113 117), some (109, false)⟩, 0⟩, dP 15 119 (.pick 109 (.c (.b true)) 118) 0, dP 16 120 (.nilCheck 104) 0, dP 17 121 (.fieldAddr 5 120) 0], some (mZ (.st 1 121 119))⟩, ⟨[], [], none⟩])))) (.reg [mB .add 122 89 (.c 1), mM 89 122]))))))) (.seq (.join [2, 5, 127, 128] [] (.reg [mL 123 2, mU 124 (.nilCheck 123), mF 3 125 124, mL 126 125, mU 127 (.lenSl 126), mK 128 0]) (.block 4 (.loop [128] [2, 5, 127] (.seq (.reg [mB .lss 129 128 127]) (.seq (.cond 129 .skip (.exit 4)) (.seq (.block 5 (.seq (.reg [mM 130 128, mM 11 130]) (.draw 0 [⟨[], [dR 0 131 (.ld1 2) 1, dR 1 132 (.ld1 2) 0, dP 2 133 (.nilCheck 132) 0, dP 3 134 (.fieldAddr 4 133) 0, dR 4 135 (.ld1 134) 0, dP 5 136 (.mv 135) 0, ⟨6, ⟨some 137, .pure (.mv 5), some (136, false)⟩, 0⟩, ⟨7, ⟨some 138, .read (.ld1 2), some (136, false)⟩, 0⟩, ⟨8, ⟨some 139, .pure (.nilCheck 138), some (136, false)⟩, 0⟩, ⟨9, ⟨some 140, .pure (.fieldAddr 3 139), some (136, false)⟩, 0⟩, ⟨10, ⟨some 141, .read (.ld1 140), some (136, false)⟩, 0⟩, ⟨11, ⟨some 142, .pure (.mv 11), some (136, false)⟩, 0⟩, ⟨12, ⟨some 143, .pure (.idxAddrSl 15 141 142), some (136, false)⟩, 0⟩], some ((mV 144 137 [143] [a266] []).g 136 false)⟩, ⟨[⟨some 131, .read (.ld1 2), none⟩], [dP 14 145 (.pick 136 (.c (.b true)) 144) 1, dP 15 146 (.nilCheck 131) 1, dP 16 147 (.fieldAddr 4 146) 1], some (mZ (.st 1 147 145))⟩, ⟨[], [], none⟩]))) (.reg [mB .add 148 128 (.c 1), mM 128 148]))))))) (.seq (.reg [mL 149 2, mU 150 (.nilCheck 149), mF 5 151 150, mL 152 151, mM 4 152]) .ret))))))))
def r194 : List ARes := [.t 4]
theorem k194 (c268 : T 268) (c269 : T 269) (a266 : U) : compFn Tryz.prog 194 = some ⟨153, (s194 c268 c269 a266).er, r194⟩ := by kernel_rfl
abbrev q194 (O : Ops Tryz.prog) (c268 : T 268) (c269 : T 269) (a266 : U) := curF 2 (sfn O (s194 c268 c269 a266) r194)
def g194 : { g // g = q194 } := by
  have h : q194 = q194 := rfl
  conv at h => rhs; reduce
  exact ⟨_, h.symm⟩
def C194 : T 194 := mkRun 2 (k194 C268 C269 A266) (by decide) (g194.1 (theOps Tryz.prog) C268 C269 A266) (by rw [g194.2])
def s193 (c190 : T 190) (c194 : T 194) : S := .seq (.reg [mK 2 (.b false)]) (.seq (.draw 0 [⟨[], [dP 0 3 (.mv 0) 0, dP 1 4 (.nilCheck 3) 0, dP 2 5 (.fieldAddr 15 4) 0, dR 3 6 (.ld1 5) 0, dP 4 7 (.mv 0) 0, dP 5 8 (.nilCheck 7) 0, dP 6 9 (.fieldAddr 16 8) 0, dR 7 10 (.ld1 9) 0], some (mQ 11 194 [6, 10] c194)⟩, ⟨[], [], none⟩]) (.seq (.reg [mM 12 0, mU 13 (.nilCheck 12), mF 15 14 13, mL 15 14, mQ 16 190 [15] c190, mM 2 16]) .ret))
def r193 : List ARes := [.t 2]
theorem k193 (c190 : T 190) (c194 : T 194) : compFn Tryz.prog 193 = some ⟨17, (s193 c190 c194).er, r193⟩ := by kernel_rfl
abbrev q193 (O : Ops Tryz.prog) (c190 : T 190) (c194 : T 194) := curF 1 (sfn O (s193 c190 c194) r193)
def g193 : { g // g = q193 } := by
  have h : q193 = q193 := rfl
  conv at h => rhs; reduce
  exact ⟨_, h.symm⟩
def C193 : T 193 := mkRun 1 (k193 C190 C194) (by decide) (g193.1 (theOps Tryz.prog) C190 C194) (by rw [g193.2])
def A193 : U := ⟨193, C193⟩
def s146 : S := .seq (.reg [mK 2 (.sl 0 none 0 0)]) (.join [0, 3] [] (.reg [mM 6 0, mU 7 (.nilCheck 6), mF 2 8 7, mL 9 8, mU 10 (.lenSl 9), mN 11 (.mkslice 1 8 [0] 10 10), mM 3 11]) (.seq (.seq (.reg [mM 12 0, mU 13 (.nilCheck 12), mF 2 14 13, mL 15 14, mU 16 (.lenSl 15), mK 17 0]) (.block 0 (.loop [17] [3, 15, 16] (.seq (.reg [mB .lss 18 17 16]) (.seq (.cond 18 .skip (.exit 0)) (.seq (.block 1 (.seq (.reg [mM 19 17, mU 20 (.idxAddrSl 1 15 17), mL 21 20, mM 4 19, mM 5 21]) (.reg [mM 22 3, mM 23 4, mM 24 5, mU 25 (.nilCheck 24), mF 13 26 25, mL 27 26, mU 28 (.idxAddrSl 1 22 23), mZ (.st 1 28 27)]))) (.reg [mB .add 29 17 (.c 1), mM 17 29]))))))) (.seq (.reg [mM 30 3, mM 2 30]) .ret)))
def r146 : List ARes := [.t 2]
theorem k146 : compFn Tryz.prog 146 = some ⟨31, (s146).er, r146⟩ := by kernel_rfl
abbrev q146 (O : Ops Tryz.prog) := curF 1 (sfn O (s146) r146)
def g146 : { g // g = q146 } := by
  have h : q146 = q146 := rfl
  conv at h => rhs; reduce
  exact ⟨_, h.symm⟩
def C146 : T 146 := mkRun 1 (k146) (by decide) (g146.1 (theOps Tryz.prog)) (by rw [g146.2])
/- a round in 82: (*rampart/verdict.Side).Cands -/
def sa82_0 (c146 : T 146) : SC Tryz.prog := .reg [mM 4 9]
def sb82_0 (c146 : T 146) : SC Tryz.prog := .block 1 (.seq (.reg [mM 10 4, mU 11 (.nilCheck 10), mF 15 12 11, mL 13 12, mQ 14 146 [13] c146, mU 15 (.lenSl 14), mK 16 0]) (.block 2 (.loop [16] [3, 14, 15] (.seq (.reg [mB .lss 17 16 15]) (.seq (.cond 17 .skip (.exit 2)) (.seq (.block 3 (.seq (.reg [mU 18 (.idxAddrSl 1 14 16), mL 19 18, mM 6 19]) (.reg [mL 20 3, mM 21 6, mU 22 (.mxmn true [20, 21]), mZ (.st 1 3 22)]))) (.reg [mB .add 23 16 (.c 1), mM 16 23])))))))
theorem kl82_0 (c146 : T 146) : compLoop Tryz.prog 82 0 = some ⟨[9], (sa82_0 c146).er, (sb82_0 c146).er⟩ := by kernel_rfl
def gl82_0 : { g : Ops Tryz.prog → RunF Tryz.prog 146 → Nat → Env → FunT 1 // g = fun (O : Ops Tryz.prog) (c146 : T 146) (n : Nat) (env : Env) => curF 1 (srnd O [9] (sa82_0 c146) (sb82_0 c146) [3] n env) } := by
  have h : (fun (O : Ops Tryz.prog) (c146 : T 146) (n : Nat) (env : Env) => curF 1 (srnd O [9] (sa82_0 c146) (sb82_0 c146) [3] n env)) = (fun (O : Ops Tryz.prog) (c146 : T 146) (n : Nat) (env : Env) => curF 1 (srnd O [9] (sa82_0 c146) (sb82_0 c146) [3] n env)) := rfl
  conv at h => rhs; reduce
  exact ⟨_, h.symm⟩
def Y82_0 : YAlt Tryz.prog := mkYld 1 [3] (kl82_0 C146) rfl (gl82_0.1 (theOps Tryz.prog) C146) (fun n env => by rw [gl82_0.2])
def s261 : S := .seq (.reg [mK 2 (.b false)]) (.seq (.reg [mM 3 0, mU 4 (.nilCheck 3), mF 5 5 4, mL 6 5, mM 2 6]) .ret)
def r261 : List ARes := [.t 2]
theorem k261 : compFn Tryz.prog 261 = some ⟨7, (s261).er, r261⟩ := by kernel_rfl
abbrev q261 (O : Ops Tryz.prog) := curF 1 (sfn O (s261) r261)
def g261 : { g // g = q261 } := by
  have h : q261 = q261 := rfl
  conv at h => rhs; reduce
  exact ⟨_, h.symm⟩
def C261 : T 261 := mkRun 1 (k261) (by decide) (g261.1 (theOps Tryz.prog)) (by rw [g261.2])
/- a round in 188: (*rampart/verdict.Side).told -/
def sa188_0 (c261 : T 261) (a189 : U) (a193 : U) : SC Tryz.prog := .reg [mM 7 10]
def sb188_0 (c261 : T 261) (a189 : U) (a193 : U) : SC Tryz.prog := .block 1 (.join [6, 7] [] (.join [2, 5, 6, 7, 13] [] (.reg [mL 11 3, mM 12 7, mV 13 11 [12] [a189, a193] []]) (.cond 13 (.join [2, 5, 6, 7] [] (.reg [mM 14 7, mU 15 (.nilCheck 14), mF 17 16 15, mZ (.st 1 16 (.c (.b true)))]) (.draw 19 [⟨[], [dR 0 17 (.ld1 5) 0, dP 1 18 (.mv 7) 0, dP 2 19 (.nilCheck 18) 0, dP 3 20 (.fieldAddr 0 19) 0, dP 4 21 (.fieldAddr 13 20) 0, dR 5 22 (.ld1 21) 0, dR 6 23 (.ld1 2) 0, dP 7 24 (.nilCheck 23) 0, dP 8 25 (.fieldAddr 3 24) 0, dR 9 26 (.ld1 25) 0, dP 10 27 (.mv 7) 0, dP 11 28 (.nilCheck 27) 0, dP 12 29 (.fieldAddr 0 28) 0, dP 13 30 (.fieldAddr 0 29) 0, dR 14 31 (.ld1 30) 0, dP 15 32 (.build [0, 0, 0, 0] [(0, (1, 22)), (2, (1, 26)), (3, (1, 31))]) 0, ⟨16, ⟨some 33, .alloc (.bslice 4 1 [0, 0, 0, 0] [(0, (4, 32))]), none⟩, 0⟩], some (mY 34 (.append 4 32 17 33))⟩, ⟨[], [], some (mZ (.st 1 5 34))⟩, ⟨[], [], none⟩])) .skip)) (.seq (.reg [mM 35 7, mU 36 (.nilCheck 35), mF 15 37 36, mL 38 37, mQ 39 261 [38] c261]) (.cond 39 (.reg [mM 40 7, mU 41 (.nilCheck 40), mF 17 42 41, mZ (.st 1 42 (.c (.b true))), mZ (.st 1 6 (.c (.b true)))]) .skip)))
theorem kl188_0 (c261 : T 261) (a189 : U) (a193 : U) : compLoop Tryz.prog 188 0 = some ⟨[10], (sa188_0 c261 a189 a193).er, (sb188_0 c261 a189 a193).er⟩ := by kernel_rfl
def gl188_0 : { g : Ops Tryz.prog → RunF Tryz.prog 261 → Alt Tryz.prog → Alt Tryz.prog → Nat → Env → FunT 1 // g = fun (O : Ops Tryz.prog) (c261 : T 261) (a189 : U) (a193 : U) (n : Nat) (env : Env) => curF 1 (srnd O [10] (sa188_0 c261 a189 a193) (sb188_0 c261 a189 a193) [2, 3, 5, 6] n env) } := by
  have h : (fun (O : Ops Tryz.prog) (c261 : T 261) (a189 : U) (a193 : U) (n : Nat) (env : Env) => curF 1 (srnd O [10] (sa188_0 c261 a189 a193) (sb188_0 c261 a189 a193) [2, 3, 5, 6] n env)) = (fun (O : Ops Tryz.prog) (c261 : T 261) (a189 : U) (a193 : U) (n : Nat) (env : Env) => curF 1 (srnd O [10] (sa188_0 c261 a189 a193) (sb188_0 c261 a189 a193) [2, 3, 5, 6] n env)) := rfl
  conv at h => rhs; reduce
  exact ⟨_, h.symm⟩
def Y188_0 : YAlt Tryz.prog := mkYld 1 [2, 3, 5, 6] (kl188_0 C261 A189 A193) rfl (gl188_0.1 (theOps Tryz.prog) C261 A189 A193) (fun n env => by rw [gl188_0.2])
def s221 (a189 : U) (a193 : U) (y82_0 : YAlt Tryz.prog) (y188_0 : YAlt Tryz.prog) : S := .join [0, 8, 9, 10] [] (.reg [mL 5 1, mU 6 (.nilCheck 5), mF 2 7 6, mL 8 7, mU 9 (.lenSl 8), mK 10 0]) (.block 0 (.loop [10] [0, 8, 9] (.seq (.reg [mB .lss 11 10 9]) (.seq (.cond 11 .skip (.exit 0)) (.seq (.block 1 (.seq (.reg [mU 12 (.idxAddrSl 1 8 10), mL 13 12, mM 4 13]) (.seq (.reg [mM 14 4, mU 15 (.nilCheck 14), mF 17 16 15, mL 17 16, mU 18 (.un .not 17), mM 19 18, (mM 20 0).g 19 true, (mM 21 4).g 19 true, (mV 22 20 [21] [a189, a193] [y82_0, y188_0]).g 19 true, (mU 23 (.un .not 22)).g 19 true, mU 24 (.pick 19 23 (.c (.b false)))]) (.cond 24 .ret .skip)))) (.reg [mB .add 25 10 (.c 1), mM 10 25]))))))
def r221 : List ARes := []
theorem k221 (a189 : U) (a193 : U) (y82_0 : YAlt Tryz.prog) (y188_0 : YAlt Tryz.prog) : compFn Tryz.prog 221 = some ⟨26, (s221 a189 a193 y82_0 y188_0).er, r221⟩ := by kernel_rfl
abbrev q221 (O : Ops Tryz.prog) (a189 : U) (a193 : U) (y82_0 : YAlt Tryz.prog) (y188_0 : YAlt Tryz.prog) := curF 2 (sfn O (s221 a189 a193 y82_0 y188_0) r221)
def g221 : { g // g = q221 } := by
  have h : q221 = q221 := rfl
  conv at h => rhs; reduce
  exact ⟨_, h.symm⟩
def C221 : T 221 := mkRun 2 (k221 A189 A193 Y82_0 Y188_0) (by decide) (g221.1 (theOps Tryz.prog) A189 A193 Y82_0 Y188_0) (by rw [g221.2])
def A221 : U := ⟨221, C221⟩
def s188 (c145 : T 145) (a221 : U) : S := .join [2, 3, 4] [] (.reg [mN 2 (.box 0), mN 3 (.box 1), mK 4 (.sl 0 none 0 0)]) (.seq (.reg [mN 5 (.newz [.sl 0 none 0 0])]) (.join [2, 3, 4, 5, 6] [] (.reg [mN 6 (.newz [.b false]), mZ (.st 1 6 (.c (.b false)))]) (.join [2, 5, 6] [] (.seq (.reg [mL 8 2, mQ 9 145 [8] c145]) (.block 0 (.rangeF 9 188 0 [2, 3, 5, 6] [a221]))) (.join [5] [] (.seq (.reg [mL 43 6]) (.cond 43 (.draw 9 [⟨[], [dR 0 44 (.ld1 5) 0, dR 1 45 (.ld1 2) 0, dP 2 46 (.nilCheck 45) 0, dP 3 47 (.fieldAddr 3 46) 0, dR 4 48 (.ld1 47) 0, dP 5 49 (.build [0, 0, 0, 0] [(2, (1, 48)), (3, (1, .c 4))]) 0, ⟨6, ⟨some 50, .alloc (.bslice 4 1 [0, 0, 0, 0] [(0, (4, 49))]), none⟩, 0⟩], some (mY 51 (.append 4 32 44 50))⟩, ⟨[], [], some (mZ (.st 1 5 51))⟩, ⟨[], [], none⟩]) .skip)) (.seq (.reg [mL 52 5, mM 4 52]) .ret)))))
def r188 : List ARes := [.t 4]
theorem k188 (c145 : T 145) (a221 : U) : compFn Tryz.prog 188 = some ⟨53, (s188 c145 a221).er, r188⟩ := by kernel_rfl
abbrev q188 (O : Ops Tryz.prog) (c145 : T 145) (a221 : U) := curF 2 (sfn O (s188 c145 a221) r188)
def g188 : { g // g = q188 } := by
  have h : q188 = q188 := rfl
  conv at h => rhs; reduce
  exact ⟨_, h.symm⟩
def C188 : T 188 := mkRun 2 (k188 C145 A221) (by decide) (g188.1 (theOps Tryz.prog) C145 A221) (by rw [g188.2])
def s114 : S := .seq (.reg [mK 4 (.b false)]) (.seq (.reg [mM 5 0, mM 6 1, mB .gtr 7 5 6, mM 4 7]) .ret)
def r114 : List ARes := [.t 4]
theorem k114 : compFn Tryz.prog 114 = some ⟨8, (s114).er, r114⟩ := by kernel_rfl
abbrev q114 (O : Ops Tryz.prog) := curF 2 (sfn O (s114) r114)
def g114 : { g // g = q114 } := by
  have h : q114 = q114 := rfl
  conv at h => rhs; reduce
  exact ⟨_, h.symm⟩
def C114 : T 114 := mkRun 2 (k114) (by decide) (g114.1 (theOps Tryz.prog)) (by rw [g114.2])
def s191 (c114 : T 114) : S := .seq (.reg [mK 2 0]) (.seq (.reg [mK 3 0]) (.seq (.seq (.reg [mM 6 0, mU 7 (.lenSl 6), mK 8 0]) (.block 0 (.loop [3, 8] [6, 7] (.seq (.reg [mB .lss 9 8 7]) (.seq (.cond 9 .skip (.exit 0)) (.join [3, 6, 7, 8] [] (.block 1 (.seq (.reg [mU 10 (.idxAddrSl 4 6 8), mR 11 (.ldN 4 10), mN 5 (.newz [0, 0, 0, 0]), mZ (.st 4 5 11)]) (.seq (.reg [mF 3 12 5, mL 13 12, mM 14 3, mQ 15 114 [13, 14] c114]) (.cond 15 (.reg [mF 3 16 5, mL 17 16, mM 3 17]) .skip)))) (.reg [mB .add 18 8 (.c 1), mM 8 18]))))))) (.seq (.reg [mM 19 3, mM 2 19]) .ret)))
def r191 : List ARes := [.t 2]
theorem k191 (c114 : T 114) : compFn Tryz.prog 191 = some ⟨20, (s191 c114).er, r191⟩ := by kernel_rfl
abbrev q191 (O : Ops Tryz.prog) (c114 : T 114) := curF 1 (sfn O (s191 c114) r191)
def g191 : { g // g = q191 } := by
  have h : q191 = q191 := rfl
  conv at h => rhs; reduce
  exact ⟨_, h.symm⟩
def C191 : T 191 := mkRun 1 (k191 C114) (by decide) (g191.1 (theOps Tryz.prog) C114) (by rw [g191.2])
def s112 (c188 : T 188) (c191 : T 191) : S := .seq (.reg [mK 2 (.sl 0 none 0 0), mK 3 0]) (.seq (.reg [mM 5 0, mQ 6 188 [5, .fn 189] c188, mM 4 6]) (.seq (.reg [mM 7 4, mM 8 4, mQ 9 191 [8] c191, mM 2 7, mM 3 9]) .ret))
def r112 : List ARes := [.t 2, .t 3]
theorem k112 (c188 : T 188) (c191 : T 191) : compFn Tryz.prog 112 = some ⟨10, (s112 c188 c191).er, r112⟩ := by kernel_rfl
abbrev q112 (O : Ops Tryz.prog) (c188 : T 188) (c191 : T 191) := curF 1 (sfn O (s112 c188 c191) r112)
def g112 : { g // g = q112 } := by
  have h : q112 = q112 := rfl
  conv at h => rhs; reduce
  exact ⟨_, h.symm⟩
def C112 : T 112 := mkRun 1 (k112 C188 C191) (by decide) (g112.1 (theOps Tryz.prog) C188 C191) (by rw [g112.2])
def s113 : S := .seq (.reg [mM 8 2, mU 9 (.lenSl 8), mK 10 0]) (.block 0 (.loop [10] [0, 1, 8, 9] (.seq (.reg [mB .lss 11 10 9]) (.seq (.cond 11 .skip (.exit 0)) (.seq (.block 1 (.join [0, 1, 7, 8, 9, 10] [] (.reg [mU 12 (.idxAddrSl 4 8 10), mR 13 (.ldN 4 12), mN 7 (.newz [0, 0, 0, 0]), mZ (.st 4 7 13)]) (.join [0, 1, 7, 8, 9, 10] [] (.reg [mM 14 1, mU 15 (.nilCheck 14), mF 40 16 15, mL 17 16, mF 1 18 7, mZ (.st 1 18 17)]) (.seq (.draw 13 [⟨[], [dP 0 19 (.mv 1) 1, dP 1 20 (.mv 1) 0, dP 2 21 (.nilCheck 20) 0, dP 3 22 (.fieldAddr 43 21) 0, dP 4 23 (.fieldAddr 1 22) 0, dR 5 24 (.ld1 23) 0, dR 6 25 (.ldN 4 7) 0, ⟨7, ⟨some 26, .alloc (.bslice 4 1 [0, 0, 0, 0] [(0, (4, 25))]), none⟩, 0⟩], some (mY 27 (.append 4 32 24 26))⟩, ⟨[], [dP 9 28 (.nilCheck 19) 1, dP 10 29 (.fieldAddr 43 28) 1, dP 11 30 (.fieldAddr 1 29) 1], some (mZ (.st 1 30 27))⟩, ⟨[], [], none⟩]) (.reg [mM 31 0, mU 32 (.nilCheck 31), mF 15 33 32, mF 9 34 33, mL 35 34, mB .add 36 35 (.c 1), mU 37 (.nilCheck 31), mF 15 38 37, mF 9 39 38, mZ (.st 1 39 36)]))))) (.reg [mB .add 40 10 (.c 1), mM 10 40]))))))
def r113 : List ARes := []
theorem k113 : compFn Tryz.prog 113 = some ⟨41, (s113).er, r113⟩ := by kernel_rfl
abbrev q113 (O : Ops Tryz.prog) := curF 3 (sfn O (s113) r113)
def g113 : { g // g = q113 } := by
  have h : q113 = q113 := rfl
  conv at h => rhs; reduce
  exact ⟨_, h.symm⟩
def C113 : T 113 := mkRun 3 (k113) (by decide) (g113.1 (theOps Tryz.prog)) (by rw [g113.2])
def s323 : S := .seq (.reg [mK 4 (.b false)]) (.seq (.reg [mM 5 1, mB .lss 6 5 (.c 0), mM 7 6, (mM 8 1).g 7 false, (mM 9 0).g 7 false, (mU 10 (.nilCheck 9)).g 7 false, (mF 0 11 10).g 7 false, (mL 12 11).g 7 false, (mU 13 (.lenSl 12)).g 7 false, (mB .geq 14 8 13).g 7 false, mU 15 (.pick 7 (.c (.b true)) 14), mM 4 15]) .ret)
def r323 : List ARes := [.t 4]
theorem k323 : compFn Tryz.prog 323 = some ⟨16, (s323).er, r323⟩ := by kernel_rfl
abbrev q323 (O : Ops Tryz.prog) := curF 2 (sfn O (s323) r323)
def g323 : { g // g = q323 } := by
  have h : q323 = q323 := rfl
  conv at h => rhs; reduce
  exact ⟨_, h.symm⟩
def C323 : T 323 := mkRun 2 (k323) (by decide) (g323.1 (theOps Tryz.prog)) (by rw [g323.2])
def s262 (c323 : T 323) : S := .seq (.reg [mK 6 0]) (.seq (.seq (.reg [mM 7 0, mM 8 1, mQ 9 323 [7, 8] c323]) (.cond 9 (.seq (.reg [mK 6 0]) .ret) .skip)) (.seq (.reg [mM 10 0, mU 11 (.nilCheck 10), mF 0 12 11, mL 13 12, mM 14 1, mM 15 2, mU 16 (.idxAddrSl 256 13 14), mU 17 (.idxAddrArr 256 1 16 15), mL 18 17, mU 19 (.conv .i64 18), mM 6 19]) .ret))
def r262 : List ARes := [.t 6]
theorem k262 (c323 : T 323) : compFn Tryz.prog 262 = some ⟨20, (s262 c323).er, r262⟩ := by kernel_rfl
abbrev q262 (O : Ops Tryz.prog) (c323 : T 323) := curF 3 (sfn O (s262 c323) r262)
def g262 : { g // g = q262 } := by
  have h : q262 = q262 := rfl
  conv at h => rhs; reduce
  exact ⟨_, h.symm⟩
def C262 : T 262 := mkRun 3 (k262 C323) (by decide) (g262.1 (theOps Tryz.prog) C323) (by rw [g262.2])
def s263 : S := .seq (.reg [mK 2 (.i .u8 0)]) (.seq (.seq (.reg [mM 3 0, mB .geq 4 3 (.c (.i .u8 65)), mM 5 4, (mM 6 0).g 5 true, (mB .leq 7 6 (.c (.i .u8 90))).g 5 true, mU 8 (.pick 5 7 (.c (.b false)))]) (.cond 8 (.seq (.reg [mM 9 0, mB .sub 10 9 (.c (.i .u8 65)), mB .add 11 10 (.c (.i .u8 97)), mM 2 11]) .ret) .skip)) (.seq (.reg [mM 12 0, mM 2 12]) .ret))
def r263 : List ARes := [.t 2]
theorem k263 : compFn Tryz.prog 263 = some ⟨13, (s263).er, r263⟩ := by kernel_rfl
abbrev q263 (O : Ops Tryz.prog) := curF 1 (sfn O (s263) r263)
def g263 : { g // g = q263 } := by
  have h : q263 = q263 := rfl
  conv at h => rhs; reduce
  exact ⟨_, h.symm⟩
def C263 : T 263 := mkRun 1 (k263) (by decide) (g263.1 (theOps Tryz.prog)) (by rw [g263.2])
def s264 (c158 : T 158) (c323 : T 323) : S := .seq (.reg [mK 4 (.sl 0 none 0 0)]) (.seq (.seq (.reg [mM 5 0, mM 6 1, mQ 7 323 [5, 6] c323]) (.cond 7 (.seq (.reg [mK 4 (.sl 0 none 0 0)]) .ret) .skip)) (.seq (.reg [mM 8 0, mU 9 (.nilCheck 8), mF 2 10 9, mL 11 10, mM 12 1, mU 13 (.idxAddrSl 1 11 12), mL 14 13, mQ 15 158 [14] c158, mM 4 15]) .ret))
def r264 : List ARes := [.t 4]
theorem k264 (c158 : T 158) (c323 : T 323) : compFn Tryz.prog 264 = some ⟨16, (s264 c158 c323).er, r264⟩ := by kernel_rfl
abbrev q264 (O : Ops Tryz.prog) (c158 : T 158) (c323 : T 323) := curF 2 (sfn O (s264 c158 c323) r264)
def g264 : { g // g = q264 } := by
  have h : q264 = q264 := rfl
  conv at h => rhs; reduce
  exact ⟨_, h.symm⟩
def C264 : T 264 := mkRun 2 (k264 C158 C323) (by decide) (g264.1 (theOps Tryz.prog) C158 C323) (by rw [g264.2])
def s265 : S := .seq (.reg [mK 4 (.b false)]) (.seq (.seq (.reg [mM 6 1, mU 7 (.lenS 6), mK 8 0]) (.block 0 (.loop [8] [0, 1, 7] (.seq (.reg [mB .lss 9 8 7]) (.seq (.cond 9 .skip (.exit 0)) (.seq (.block 1 (.seq (.reg [mM 10 8, mM 5 10]) (.seq (.draw 0 [⟨[], [dP 0 11 (.mv 0) 0, dP 1 12 (.mv 0) 0, dP 2 13 (.nilCheck 12) 0, dP 3 14 (.fieldAddr 4 13) 0, dR 4 15 (.ld1 14) 0, dP 5 16 (.mv 1) 0, dP 6 17 (.lenS 16) 0, dP 7 18 (.bin .sub 15 17) 0, dP 8 19 (.mv 5) 0, dP 9 20 (.bin .add 18 19) 0, dP 10 21 (.bin .rem 20 (.c 16)) 0, dP 11 22 (.nilCheck 11) 0, dP 12 23 (.fieldAddr 5 22) 0, dP 13 24 (.idxAddrArr 16 1 23 21) 0, dR 14 25 (.ld1 24) 0, dP 15 26 (.mv 1) 0, dP 16 27 (.mv 5) 0, dP 17 28 (.idxStr 26 27) 0, dP 18 29 (.bin .neq 25 28) 0], none⟩]) (.cond 29 (.seq (.reg [mK 4 (.b false)]) .ret) .skip)))) (.reg [mB .add 30 8 (.c 1), mM 8 30]))))))) (.seq (.reg [mK 4 (.b true)]) .ret))
def r265 : List ARes := [.t 4]
theorem k265 : compFn Tryz.prog 265 = some ⟨31, (s265).er, r265⟩ := by kernel_rfl
abbrev q265 (O : Ops Tryz.prog) := curF 2 (sfn O (s265) r265)
def g265 : { g // g = q265 } := by
  have h : q265 = q265 := rfl
  conv at h => rhs; reduce
  exact ⟨_, h.symm⟩
def C265 : T 265 := mkRun 2 (k265) (by decide) (g265.1 (theOps Tryz.prog)) (by rw [g265.2])
def s192 (c262 : T 262) (c263 : T 263) (c264 : T 264) (c265 : T 265) : S := .seq (.reg [mK 4 (.sl 0 none 0 0)]) (.join [0, 1] [] (.draw 0 [⟨[], [dP 0 8 (.mv 0) 0, dP 1 9 (.mv 0) 0, dP 2 10 (.nilCheck 9) 0, dP 3 11 (.fieldAddr 4 10) 0, dR 4 12 (.ld1 11) 0, dP 5 13 (.bin .rem 12 (.c 16)) 0, dP 6 14 (.mv 1) 0, dP 7 15 (.nilCheck 8) 0, dP 8 16 (.fieldAddr 5 15) 0, dP 9 17 (.idxAddrArr 16 1 16 13) 0], some (mZ (.st 1 17 14))⟩, ⟨[], [], none⟩]) (.join [0, 1] [] (.reg [mM 18 0, mU 19 (.nilCheck 18), mF 4 20 19, mL 21 20, mB .add 22 21 (.c 1), mU 23 (.nilCheck 18), mF 4 24 23, mZ (.st 1 24 22)]) (.join [0, 1] [] (.seq (.reg [mM 25 0, mU 26 (.nilCheck 25), mF 0 27 26, mL 28 27, mR 29 (.peq false 28 (.c (.p none)))]) (.cond 29 (.seq (.reg [mK 4 (.sl 0 none 0 0)]) .ret) .skip)) (.join [0] [] (.draw 0 [⟨[], [dP 0 30 (.mv 0) 2, dP 1 31 (.mv 0) 1, dP 2 32 (.nilCheck 31) 1, dP 3 33 (.fieldAddr 0 32) 1, dR 4 34 (.ld1 33) 1, dP 5 35 (.mv 0) 1, dP 6 36 (.nilCheck 35) 1, dP 7 37 (.fieldAddr 3 36) 1, dR 8 38 (.ld1 37) 1, dP 9 39 (.mv 1) 0], some (mQ 40 263 [39] c263)⟩, ⟨[⟨some 34, .read (.ld1 33), none⟩, ⟨some 38, .read (.ld1 37), none⟩], [], some (mQ 41 262 [34, 38, 40] c262)⟩, ⟨[], [dP 12 42 (.nilCheck 30) 2, dP 13 43 (.fieldAddr 3 42) 2], some (mZ (.st 1 43 41))⟩, ⟨[], [], none⟩]) (.seq (.reg [mK 5 (.sl 0 none 0 0)]) (.seq (.join [0, 5, 52, 53, 54] [] (.draw 0 [⟨[], [dP 0 44 (.mv 0) 0, dP 1 45 (.nilCheck 44) 0, dP 2 46 (.fieldAddr 0 45) 0, dR 3 47 (.ld1 46) 0, dP 4 48 (.mv 0) 0, dP 5 49 (.nilCheck 48) 0, dP 6 50 (.fieldAddr 3 49) 0, dR 7 51 (.ld1 50) 0, dP 10 54 (.mv (.c 0)) 1], some (mQ 52 264 [47, 51] c264)⟩, ⟨[], [dP 9 53 (.lenSl 52) 1], none⟩]) (.block 0 (.loop [5, 54] [0, 52, 53] (.seq (.reg [mB .lss 55 54 53]) (.seq (.cond 55 .skip (.exit 0)) (.join [0, 5, 52, 53, 54] [] (.block 1 (.join [0, 5, 7, 52, 53, 54] [] (.reg [mU 56 (.idxAddrSl 1 52 54), mL 57 56, mM 7 57]) (.seq (.reg [mM 58 7, mM 59 0, mU 60 (.nilCheck 59), mF 1 61 60, mL 62 61, mU 63 (.lenSl 62), mB .lss 64 58 63, mM 65 64, (mM 66 7).g 65 true, (mM 67 0).g 65 true, (mU 68 (.nilCheck 67)).g 65 true, (mF 2 69 68).g 65 true, (mL 70 69).g 65 true, (mU 71 (.lenSl 70)).g 65 true, (mB .lss 72 66 71).g 65 true, (mM 73 72).g 65 true, (mM 74 0).g 73 true, (mU 75 (.nilCheck 74)).g 73 true, (mF 2 76 75).g 73 true, (mL 77 76).g 73 true, (mM 78 7).g 73 true, (mU 79 (.idxAddrSl 1 77 78)).g 73 true, (mL 80 79).g 73 true, (mU 81 (.pick 73 80 (.c (.b false)))).g 65 true, (mM 82 81).g 65 true, (mM 83 0).g 82 false, (mM 84 0).g 82 false, (mU 85 (.nilCheck 84)).g 82 false, (mF 1 86 85).g 82 false, (mL 87 86).g 82 false, (mM 88 7).g 82 false, (mU 89 (.idxAddrSl 1 87 88)).g 82 false, (mL 90 89).g 82 false, (mQ 91 265 [83, 90] c265).g 82 false, (mU 92 (.pick 82 (.c (.b true)) 91)).g 65 true, mU 93 (.pick 65 92 (.c (.b false)))]) (.cond 93 (.reg [mM 94 5, mM 95 7, mN 96 (.bslice 1 1 [0] [(0, (1, 95))]), mY 97 (.append 1 8 94 96), mM 5 97]) .skip)))) (.reg [mB .add 98 54 (.c 1), mM 54 98]))))))) (.seq (.reg [mM 99 5, mM 4 99]) .ret)))))))
def r192 : List ARes := [.t 4]
theorem k192 (c262 : T 262) (c263 : T 263) (c264 : T 264) (c265 : T 265) : compFn Tryz.prog 192 = some ⟨100, (s192 c262 c263 c264 c265).er, r192⟩ := by kernel_rfl
abbrev q192 (O : Ops Tryz.prog) (c262 : T 262) (c263 : T 263) (c264 : T 264) (c265 : T 265) := curF 2 (sfn O (s192 c262 c263 c264 c265) r192)
def g192 : { g // g = q192 } := by
  have h : q192 = q192 := rfl
  conv at h => rhs; reduce
  exact ⟨_, h.symm⟩
def C192 : T 192 := mkRun 2 (k192 C262 C263 C264 C265) (by decide) (g192.1 (theOps Tryz.prog) C262 C263 C264 C265) (by rw [g192.2])
def s115 (c188 : T 188) (c191 : T 191) (c192 : T 192) : S := .seq (.reg [mK 4 (.sl 0 none 0 0), mK 5 0]) (.join [0, 1] [] (.reg [mM 14 0, mU 15 (.nilCheck 14), mF 3 16 15, mL 17 16, mB .add 18 17 (.c 1), mU 19 (.nilCheck 14), mF 3 20 19, mZ (.st 1 20 18)]) (.join [0, 6] [] (.reg [mM 21 0, mU 22 (.nilCheck 21), mF 0 23 22, mL 24 23, mM 25 1, mQ 26 192 [24, 25] c192, mM 6 26]) (.join [0, 6] [] (.seq (.reg [mM 27 6, mU 28 (.lenSl 27), mK 29 0]) (.block 0 (.loop [29] [0, 6, 27, 28] (.seq (.reg [mB .lss 30 29 28]) (.seq (.cond 30 .skip (.exit 0)) (.seq (.block 1 (.join [0, 6, 8, 27, 28, 29] [] (.reg [mU 31 (.idxAddrSl 1 27 29), mL 32 31, mM 8 32]) (.join [0, 6, 9, 27, 28, 29] [] (.reg [mM 33 0, mU 34 (.nilCheck 33), mF 1 35 34, mL 36 35, mM 37 8, mU 38 (.idxAddrSl 2 36 37), mR 39 (.ldN 2 38), mN 9 (.newz [.p none, 0]), mZ (.st 2 9 39)]) (.draw 0 [⟨[], [dP 0 40 (.fieldAddr 0 9) 0, dR 1 41 (.ld1 40) 0, dP 2 42 (.nilCheck 41) 0, dP 3 43 (.fieldAddr 16 42) 0, dR 4 44 (.ld1 43) 0, dP 5 45 (.fieldAddr 1 9) 0, dR 6 46 (.ld1 45) 0, dP 7 47 (.idxAddrSl 1 44 46) 0], some (mZ (.st 1 47 (.c (.b true))))⟩, ⟨[], [], none⟩])))) (.reg [mB .add 48 29 (.c 1), mM 29 48]))))))) (.seq (.reg [mM 49 0, mQ 50 188 [49, .fn 193] c188, mM 10 50]) (.seq (.seq (.reg [mM 51 6, mU 52 (.lenSl 51), mK 53 0]) (.block 2 (.loop [53] [0, 10, 51, 52] (.seq (.reg [mB .lss 54 53 52]) (.seq (.cond 54 .skip (.exit 2)) (.seq (.block 3 (.join [0, 10, 12, 51, 52, 53] [] (.reg [mU 55 (.idxAddrSl 1 51 53), mL 56 55, mM 12 56]) (.join [0, 10, 13, 51, 52, 53] [] (.reg [mM 57 0, mU 58 (.nilCheck 57), mF 1 59 58, mL 60 59, mM 61 12, mU 62 (.idxAddrSl 2 60 61), mR 63 (.ldN 2 62), mN 13 (.newz [.p none, 0]), mZ (.st 2 13 63)]) (.draw 0 [⟨[], [dP 0 64 (.fieldAddr 0 13) 0, dR 1 65 (.ld1 64) 0, dP 2 66 (.nilCheck 65) 0, dP 3 67 (.fieldAddr 16 66) 0, dR 4 68 (.ld1 67) 0, dP 5 69 (.fieldAddr 1 13) 0, dR 6 70 (.ld1 69) 0, dP 7 71 (.idxAddrSl 1 68 70) 0], some (mZ (.st 1 71 (.c (.b false))))⟩, ⟨[], [], none⟩])))) (.reg [mB .add 72 53 (.c 1), mM 53 72]))))))) (.seq (.reg [mM 73 10, mM 74 10, mQ 75 191 [74] c191, mM 4 73, mM 5 75]) .ret))))))
def r115 : List ARes := [.t 4, .t 5]
theorem k115 (c188 : T 188) (c191 : T 191) (c192 : T 192) : compFn Tryz.prog 115 = some ⟨76, (s115 c188 c191 c192).er, r115⟩ := by kernel_rfl
abbrev q115 (O : Ops Tryz.prog) (c188 : T 188) (c191 : T 191) (c192 : T 192) := curF 2 (sfn O (s115 c188 c191 c192) r115)
def g115 : { g // g = q115 } := by
  have h : q115 = q115 := rfl
  conv at h => rhs; reduce
  exact ⟨_, h.symm⟩
def C115 : T 115 := mkRun 2 (k115 C188 C191 C192) (by decide) (g115.1 (theOps Tryz.prog) C188 C191 C192) (by rw [g115.2])
def s270 : S := .seq (.reg [mK 4 (.b false)]) (.seq (.seq (.reg [mM 7 1, mU 8 (.lenSl 7), mK 9 0]) (.block 0 (.loop [9] [0, 7, 8] (.seq (.reg [mB .lss 10 9 8]) (.seq (.cond 10 .skip (.exit 0)) (.seq (.block 1 (.seq (.reg [mU 11 (.idxAddrSl 1 7 9), mL 12 11, mM 6 12]) (.seq (.reg [mM 13 6, mB .lss 14 13 (.c 0), mM 15 14, (mM 16 6).g 15 false, (mM 17 0).g 15 false, (mB .gtr 18 16 17).g 15 false, mU 19 (.pick 15 (.c (.b true)) 18)]) (.cond 19 (.seq (.reg [mK 4 (.b false)]) .ret) .skip)))) (.reg [mB .add 20 9 (.c 1), mM 9 20]))))))) (.seq (.reg [mK 4 (.b true)]) .ret))
def r270 : List ARes := [.t 4]
theorem k270 : compFn Tryz.prog 270 = some ⟨21, (s270).er, r270⟩ := by kernel_rfl
abbrev q270 (O : Ops Tryz.prog) := curF 2 (sfn O (s270) r270)
def g270 : { g // g = q270 } := by
  have h : q270 = q270 := rfl
  conv at h => rhs; reduce
  exact ⟨_, h.symm⟩
def C270 : T 270 := mkRun 2 (k270) (by decide) (g270.1 (theOps Tryz.prog)) (by rw [g270.2])
def s195 (c172 : T 172) (c254 : T 254) (c270 : T 270) : S := .seq (.reg [mN 2 (.box 0), mK 4 (.s []), mK 5 0]) (.join [1, 2] [] (.block 0 (.seq (.reg [mF 2 9 2, mL 10 9, mF 3 11 2, mL 12 11, mN 13 (.bslice 1 2 [0, 0] [(0, (1, 10)), (1, (1, 12))]), mQ 14 270 [.c 255, 13] c270, mU 15 (.un .not 14), mM 8 15]) (.cond 8 (.seq (.reg [mK 4 (.s []), mK 5 1]) .ret) (.seq (.reg [mM 17 1, mU 18 (.lenS 17), mB .add 19 (.c 8) 18, mB .gtr 20 19 (.c 2000), mM 16 20]) (.cond 16 (.seq (.reg [mK 4 (.s []), mK 5 5]) .ret) .skip))))) (.seq (.draw 0 [⟨[], [dP 0 21 (.fieldAddr 2 2) 0, dR 1 22 (.ld1 21) 0, dP 3 24 (.fieldAddr 3 2) 1, dR 4 25 (.ld1 24) 1, dP 7 28 (.fieldAddr 4 2) 2, dR 8 29 (.ld1 28) 2, dP 9 30 (.conv .i64 29) 2, dP 11 32 (.mv 1) 3], some (mQ 23 254 [22, .c 1] c254)⟩, ⟨[⟨some 25, .read (.ld1 24), none⟩, ⟨some 29, .read (.ld1 28), none⟩], [], some (mQ 26 254 [25, .c 1] c254)⟩, ⟨[⟨some 29, .read (.ld1 28), none⟩], [dP 6 27 (.bin .add 23 26) 3], some (mQ 31 254 [30, .c 4] c254)⟩, ⟨[], [dP 12 33 (.bin .add 31 32) 3, dP 13 6 (.mv 27) 3, dP 14 7 (.mv 33) 3], none⟩]) (.seq (.reg [mM 34 6, mM 35 6, mM 36 7, mN 37 (.bslice 1 3 [.s [], .s [], .s []] [(0, (1, 35)), (1, (1, .c (.s [0, 0]))), (2, (1, 36))]), mQ 38 172 [37] c172, mQ 39 254 [38, .c 2] c254, mB .add 40 34 39, mM 41 7, mB .add 42 40 41, mM 4 42, mK 5 0]) .ret)))
def r195 : List ARes := [.t 4, .t 5]
theorem k195 (c172 : T 172) (c254 : T 254) (c270 : T 270) : compFn Tryz.prog 195 = some ⟨43, (s195 c172 c254 c270).er, r195⟩ := by kernel_rfl
abbrev q195 (O : Ops Tryz.prog) (c172 : T 172) (c254 : T 254) (c270 : T 270) := curF 2 (sfn O (s195 c172 c254 c270) r195)
def g195 : { g // g = q195 } := by
  have h : q195 = q195 := rfl
  conv at h => rhs; reduce
  exact ⟨_, h.symm⟩
def C195 : T 195 := mkRun 2 (k195 C172 C254 C270) (by decide) (g195.1 (theOps Tryz.prog) C172 C254 C270) (by rw [g195.2])
def s196 : S := .join [1, 2] [] (.reg [mN 1 (.box 0), mN 2 (.newz [.i .u8 0, .i .u8 0, .i .u8 0, .i .u8 0, .i .u8 0, .i .u8 0, .i .u8 0, .i .u8 0, .i .u8 0, .i .u8 0, .i .u8 0, .i .u8 0, 0, 0, 0, .b false, .b false, 0, 0, 0, .i .u32 0, .i .u32 0, .s []])]) (.join [1, 2] [] (.reg [mF 0 3 1, mF 6 4 3, mR 5 (.ldN 6 4), mF 0 6 1, mF 0 7 6, mR 8 (.ldN 6 7), mF 0 9 1, mF 0 10 9, mZ (.st 6 10 5), mF 0 11 1, mF 6 12 11, mZ (.st 6 12 8)]) (.join [1, 2] [] (.reg [mF 13 13 1, mF 8 14 13, mL 15 14, mF 13 16 1, mF 7 17 16, mL 18 17, mF 13 19 1, mF 7 20 19, mZ (.st 1 20 15), mF 13 21 1, mF 8 22 21, mZ (.st 1 22 18)]) (.seq (.reg [mF 13 23 1, mF 2 24 23, mZ (.st 1 24 (.c (.b false))), mF 13 25 1, mF 3 26 25, mZ (.st 1 26 (.c (.b false))), mF 13 27 1, mF 4 28 27, mZ (.st 1 28 (.c 0)), mF 13 29 1, mF 1 30 29, mZ (.st 1 30 (.c 0)), mF 13 31 1, mF 5 32 31, mZ (.st 1 32 (.c 64)), mF 13 33 1, mF 9 34 33, mZ (.st 1 34 (.c (.s [])))]) (.seq (.reg [mR 35 (.ldN 23 1), mZ (.st 23 2 35)]) .ret))))
def r196 : List ARes := [.c true 23 2]
theorem k196 : compFn Tryz.prog 196 = some ⟨36, (s196).er, r196⟩ := by kernel_rfl
abbrev q196 (O : Ops Tryz.prog) := curF 1 (sfn O (s196) r196)
def g196 : { g // g = q196 } := by
  have h : q196 = q196 := rfl
  conv at h => rhs; reduce
  exact ⟨_, h.symm⟩
def C196 : T 196 := mkRun 1 (k196) (by decide) (g196.1 (theOps Tryz.prog)) (by rw [g196.2])
def A196 : U := ⟨196, C196⟩
def s117 (c106 : T 106) (c176 : T 176) (c195 : T 195) (c196 : T 196) : S := .join [2, 3, 4] [] (.reg [mN 3 (.box 0), mN 4 (.box 1), mK 6 (.s [])]) (.join [3, 4, 7, 8] [] (.reg [mR 12 (.ldN 10 4), mM 13 2, mQ 14 176 [12, 13] c176, mM 11 14, mU 15 (.extract 0 11), mU 16 (.extract 1 11), mM 7 15, mM 8 16]) (.join [3, 4, 7] [] (.seq (.reg [mM 17 8, mB .neq 18 17 (.c 0)]) (.cond 18 (.reg [mK 7 (.s [])]) .skip)) (.join [3, 4, 8, 9] [] (.reg [mU 20 (.build [0, 0, 0, 0, .i .u32 0] [(2, (1, .c 3)), (3, (1, .c 3))]), mM 21 7, mM 22 7, mU 23 (.lenS 22), mF 9 24 4, mL 25 24, mU 26 (.lenS 25), mB .add 27 (.c 20) 26, mB .add 28 27 (.c 8), mU 29 (.mxmn false [23, 28]), mU 30 (.slStr 21 none (some 29)), mQ 31 195 [20, 30] c195, mM 19 31, mU 32 (.extract 0 19), mU 33 (.extract 1 19), mM 9 32, mM 8 33]) (.seq (.seq (.reg [mM 34 8, mB .neq 35 34 (.c 0)]) (.cond 35 (.seq (.reg [mK 6 (.s [])]) .ret) .skip)) (.seq (.reg [mR 36 (.ldN 13 3), mR 37 (.ldN 10 4), mU 38 (.build [.i .u8 0, .i .u8 0, .i .u8 0, .i .u8 0, .i .u8 0, .i .u8 0, .i .u8 0, .i .u8 0, .i .u8 0, .i .u8 0, .i .u8 0, .i .u8 0, 0, 0, 0, .b false, .b false, 0, 0, 0, .i .u32 0, .i .u32 0, .s []] [(0, (13, 36)), (13, (10, 37))]), mQ 39 196 [38] c196, mN 10 (.newz [.i .u8 0, .i .u8 0, .i .u8 0, .i .u8 0, .i .u8 0, .i .u8 0, .i .u8 0, .i .u8 0, .i .u8 0, .i .u8 0, .i .u8 0, .i .u8 0, 0, 0, 0, .b false, .b false, 0, 0, 0, .i .u32 0, .i .u32 0, .s []]), mZ (.st 23 10 39)]) (.seq (.reg [mF 13 40 10, mF 6 41 40, mZ (.st 1 41 (.c 1))]) (.seq (.reg [mF 0 42 10, mR 43 (.ldN 13 42), mF 13 44 10, mR 45 (.ldN 10 44), mM 46 9, mQ 47 106 [43, 45, 46] c106, mM 6 47]) .ret)))))))
def r117 : List ARes := [.t 6]
theorem k117 (c106 : T 106) (c176 : T 176) (c195 : T 195) (c196 : T 196) : compFn Tryz.prog 117 = some ⟨48, (s117 c106 c176 c195 c196).er, r117⟩ := by kernel_rfl
abbrev q117 (O : Ops Tryz.prog) (c106 : T 106) (c176 : T 176) (c195 : T 195) (c196 : T 196) := curF 3 (sfn O (s117 c106 c176 c195 c196) r117)
def g117 : { g // g = q117 } := by
  have h : q117 = q117 := rfl
  conv at h => rhs; reduce
  exact ⟨_, h.symm⟩
def C117 : T 117 := mkRun 3 (k117 C106 C176 C195 C196) (by decide) (g117.1 (theOps Tryz.prog) C106 C176 C195 C196) (by rw [g117.2])
def s198 : S := .seq (.reg [mK 6 (.sl 0 none 0 0)]) (.join [0, 1, 2] [] (.reg [mM 8 0, mM 9 1, mM 10 2, mM 11 0, mU 12 (.lenSl 11), mU 13 (.slSl 6 8 (some 9) (some 10) (some 12))]) (.seq (.seq (.reg [mM 14 1, mM 15 2, mB .eql 16 14 15]) (.cond 16 (.seq (.reg [mM 17 0, mM 6 17]) .ret) .skip)) (.seq (.reg [mM 18 0, mU 19 (.lenSl 18), mM 7 19]) (.seq (.draw 0 [⟨[], [dP 0 20 (.mv 0) 0, dP 1 21 (.mv 1) 0, dP 2 22 (.slSl 6 20 none (some 21) none) 0, dP 3 23 (.mv 0) 0, dP 4 24 (.mv 2) 0, dP 5 25 (.slSl 6 23 (some 24) none none) 0], some (mY 26 (.append 6 40 22 25))⟩, ⟨[], [dP 7 0 (.mv 26) 1], none⟩]) (.seq (.reg [mM 27 0, mM 28 0, mU 29 (.lenSl 28), mM 30 7, mU 31 (.slSl 6 27 (some 29) (some 30) none), mZ (.clearSl 6 [0, .i .u32 0, .i .u32 0, 0, 0, 0] 31)]) (.seq (.reg [mM 32 0, mM 6 32]) .ret))))))
def r198 : List ARes := [.t 6]
theorem k198 : compFn Tryz.prog 198 = some ⟨33, (s198).er, r198⟩ := by kernel_rfl
abbrev q198 (O : Ops Tryz.prog) := curF 3 (sfn O (s198) r198)
def g198 : { g // g = q198 } := by
  have h : q198 = q198 := rfl
  conv at h => rhs; reduce
  exact ⟨_, h.symm⟩
def C198 : T 198 := mkRun 3 (k198) (by decide) (g198.1 (theOps Tryz.prog)) (by rw [g198.2])
def s118 (c179 : T 179) (c197 : T 197) (c198 : T 198) : S := .seq (.reg [mN 3 (.box 1)]) (.join [0, 3] [] (.join [0, 3, 4] [] (.draw 0 [⟨[], [dP 0 6 (.mv 0) 1, dP 1 7 (.nilCheck 6) 1, dP 2 8 (.fieldAddr 2 7) 1, dR 3 9 (.ld1 8) 1, dR 4 10 (.ldN 5 3) 0], some (mQ 11 179 [10] c179)⟩, ⟨[⟨some 9, .read (.ld1 8), none⟩], [], some (mQ 12 197 [9, 11] c197)⟩, ⟨[], [dP 7 4 (.mv 12) 2], none⟩]) (.seq (.reg [mM 13 4, mB .geq 14 13 (.c 0)]) (.cond 14 (.seq (.reg [mM 15 0, mU 16 (.nilCheck 15), mF 2 17 16, mL 18 17, mM 19 4, mU 20 (.idxAddrSl 6 18 19), mF 0 21 20, mR 22 (.ldN 5 21), mZ (.st 5 3 22)]) (.reg [mM 23 0, mM 24 0, mU 25 (.nilCheck 24), mF 2 26 25, mL 27 26, mM 28 4, mM 29 4, mB .add 30 29 (.c 1), mQ 31 198 [27, 28, 30] c198, mU 32 (.nilCheck 23), mF 2 33 32, mZ (.st 1 33 31)])) .skip))) (.join [0] [] (.draw 16 [⟨[], [dP 0 34 (.mv 0) 1, dP 1 35 (.mv 0) 0, dP 2 36 (.nilCheck 35) 0, dP 3 37 (.fieldAddr 2 36) 0, dR 4 38 (.ld1 37) 0, dR 5 39 (.ldN 5 3) 0, dP 6 40 (.mv 0) 0, dP 7 41 (.nilCheck 40) 0, dP 8 42 (.fieldAddr 0 41) 0, dR 9 43 (.ld1 42) 0, dP 10 44 (.build [0, .i .u32 0, .i .u32 0, 0, 0, 0] [(0, (5, 39)), (5, (1, 43))]) 0, ⟨11, ⟨some 45, .alloc (.bslice 6 1 [0, .i .u32 0, .i .u32 0, 0, 0, 0] [(0, (6, 44))]), none⟩, 0⟩], some (mY 46 (.append 6 40 38 45))⟩, ⟨[], [dP 13 47 (.nilCheck 34) 1, dP 14 48 (.fieldAddr 2 47) 1], some (mZ (.st 1 48 46))⟩, ⟨[], [], none⟩]) (.seq (.reg [mM 49 0, mU 50 (.nilCheck 49), mF 2 51 50, mL 52 51, mU 53 (.lenSl 52), mM 5 53]) (.seq (.reg [mM 54 5, mB .gtr 55 54 (.c 64)]) (.cond 55 (.reg [mM 56 0, mM 57 0, mU 58 (.nilCheck 57), mF 2 59 58, mL 60 59, mM 61 5, mB .sub 62 61 (.c 64), mU 63 (.slSl 6 60 (some 62) none none), mU 64 (.nilCheck 56), mF 2 65 64, mZ (.st 1 65 63)]) .skip)))))
def r118 : List ARes := []
theorem k118 (c179 : T 179) (c197 : T 197) (c198 : T 198) : compFn Tryz.prog 118 = some ⟨66, (s118 c179 c197 c198).er, r118⟩ := by kernel_rfl
abbrev q118 (O : Ops Tryz.prog) (c179 : T 179) (c197 : T 197) (c198 : T 198) := curF 2 (sfn O (s118 c179 c197 c198) r118)
def g118 : { g // g = q118 } := by
  have h : q118 = q118 := rfl
  conv at h => rhs; reduce
  exact ⟨_, h.symm⟩
def C118 : T 118 := mkRun 2 (k118 C179 C197 C198) (by decide) (g118.1 (theOps Tryz.prog) C179 C197 C198) (by rw [g118.2])
def s56 (c98 : T 98) (c100 : T 100) (c106 : T 106) (c111 : T 111) (c112 : T 112) (c113 : T 113) (c114 : T 114) (c115 : T 115) (c116 : T 116) (c117 : T 117) (c118 : T 118) : S := .seq (.reg [mK 4 (.b false)]) (.join [0, 1] [] (.seq (.reg [mM 9 1, mU 10 (.nilCheck 9), mF 34 11 10, mF 0 12 11, mL 13 12, mB .eql 14 13 (.c 6)]) (.cond 14 (.seq (.reg [mK 4 (.b true)]) .ret) .skip)) (.join [0, 1, 5] [] (.draw 0 [⟨[], [dP 0 15 (.mv 1) 0, dP 1 16 (.nilCheck 15) 0, dP 2 17 (.fieldAddr 42 16) 0, dR 3 18 (.ld1 17) 0, dP 4 19 (.nilCheck 18) 0, dP 5 20 (.fieldAddr 5 19) 0, dR 6 21 (.ld1 20) 0, dP 7 22 (.mv 1) 0, dP 8 23 (.nilCheck 22) 0, dP 9 24 (.fieldAddr 42 23) 0, dR 10 25 (.ld1 24) 0, dP 11 26 (.mv 1) 0, dP 12 27 (.nilCheck 26) 0, dP 13 28 (.fieldAddr 40 27) 0, dR 14 29 (.ld1 28) 0, dP 15 30 (.nilCheck 25) 0, dP 16 31 (.fieldAddr 6 30) 0, dP 17 32 (.idxAddrArr 2 1 31 29) 0, dR 18 33 (.ld1 32) 0, dP 19 34 (.mv 0) 0, dP 20 35 (.nilCheck 34) 0, dP 21 36 (.fieldAddr 0 35) 0, dP 22 37 (.fieldAddr 4 36) 0, dR 23 38 (.ld1 37) 0], some (mQ 39 111 [21, 33, 38] c111)⟩, ⟨[], [dP 25 5 (.mv 39) 1], none⟩]) (.join [0, 1, 5, 6, 7] [] (.reg [mM 41 5, mQ 42 112 [41] c112, mM 40 42, mU 43 (.extract 0 40), mU 44 (.extract 1 40), mM 6 43, mM 7 44]) (.seq (.reg [mM 45 0, mM 46 1, mM 47 6, mQ 48 113 [45, 46, 47] c113]) (.join [0, 1, 7] [] (.seq (.reg [mK 8 0]) (.block 0 (.loop [7, 8] [0, 1, 5] (.seq (.seq (.reg [mM 49 8, mM 50 1, mU 51 (.nilCheck 50), mF 33 52 51, mL 53 52, mU 54 (.lenS 53), mB .lss 55 49 54, mM 56 55, (mM 57 7).g 56 true, (mQ 58 114 [57, .c 1] c114).g 56 true, (mU 59 (.un .not 58)).g 56 true, mU 60 (.pick 56 59 (.c (.b false)))]) (.cond 60 .skip (.exit 0))) (.seq (.block 1 (.seq (.reg [mM 64 5, mM 65 1, mU 66 (.nilCheck 65), mF 33 67 66, mL 68 67, mM 69 8, mU 70 (.idxStr 68 69), mQ 71 115 [64, 70] c115, mM 63 71, mU 72 (.extract 0 63), mU 73 (.extract 1 63), mM 6 72, mM 7 73]) (.reg [mM 74 0, mM 75 1, mM 76 6, mQ 77 113 [74, 75, 76] c113]))) (.reg [mM 61 8, mB .add 62 61 (.c 1), mM 8 62])))))) (.join [0] [] (.seq (.reg [mM 78 7]) (.block 2 (.seq (.reg [mB .eql 96 78 (.c 2), mM 95 96]) (.cond 95 .skip (.seq (.reg [mB .eql 98 78 (.c 3), mM 97 98]) (.cond 97 (.draw 0 [⟨[], [dP 0 99 (.mv 1) 1, dP 1 100 (.mv 1) 1, dP 2 101 (.nilCheck 100) 1, dP 3 102 (.fieldAddr 0 101) 1, dR 4 103 (.ld1 102) 1, dP 5 104 (.mv 1) 0, dP 6 105 (.nilCheck 104) 0, dP 7 106 (.fieldAddr 2 105) 0, dR 8 107 (.ldN 13 106) 0, dP 9 108 (.mv 1) 0, dP 10 109 (.nilCheck 108) 0, dP 11 110 (.fieldAddr 15 109) 0, dR 12 111 (.ldN 10 110) 0, dP 13 112 (.mv 1) 0, dP 14 113 (.nilCheck 112) 0, dP 15 114 (.fieldAddr 25 113) 0, dR 16 115 (.ld1 114) 0], some (mQ 116 117 [107, 111, 115] c117)⟩, ⟨[⟨some 103, .read (.ld1 102), none⟩], [], some (mQ 117 116 [99, 103, 116] c116)⟩, ⟨[], [], none⟩]) (.seq (.reg [mB .eql 119 78 (.c 4), mM 118 119]) (.cond 118 (.draw 0 [⟨[], [dP 0 120 (.mv 0) 0, dP 1 121 (.nilCheck 120) 0, dP 2 122 (.fieldAddr 13 121) 0, dR 3 123 (.ld1 122) 0, dP 4 124 (.mv 1) 0, dP 5 125 (.nilCheck 124) 0, dP 6 126 (.fieldAddr 42 125) 0, dR 7 127 (.ld1 126) 0, dP 8 128 (.nilCheck 127) 0, dP 9 129 (.fieldAddr 0 128) 0, dR 10 130 (.ldN 5 129) 0], some (mQ 131 118 [123, 130] c118)⟩, ⟨[], [], none⟩]) (.seq (.draw 0 [⟨[], [dP 0 79 (.mv 0) 1, dP 1 80 (.mv 1) 1, dP 2 81 (.mv 1) 0, dP 3 82 (.nilCheck 81) 0, dP 4 83 (.fieldAddr 2 82) 0, dR 5 84 (.ldN 13 83) 0, dP 6 85 (.mv 1) 0, dP 7 86 (.nilCheck 85) 0, dP 8 87 (.fieldAddr 15 86) 0, dR 9 88 (.ldN 10 87) 0, dP 10 89 (.mv 1) 0, dP 11 90 (.nilCheck 89) 0, dP 12 91 (.fieldAddr 25 90) 0, dR 13 92 (.ld1 91) 0], some (mQ 93 106 [84, 88, 92] c106)⟩, ⟨[], [], some (mQ 94 100 [79, 80, 93] c100)⟩, ⟨[], [dP 16 4 (.mv 94) 2], none⟩]) .ret))))))))) (.seq (.reg [mM 132 0, mU 133 (.nilCheck 132), mF 15 134 133, mF 4 135 134, mQ 136 98 [135] c98, mM 4 136]) .ret)))))))
def r56 : List ARes := [.t 4]
theorem k56 (c98 : T 98) (c100 : T 100) (c106 : T 106) (c111 : T 111) (c112 : T 112) (c113 : T 113) (c114 : T 114) (c115 : T 115) (c116 : T 116) (c117 : T 117) (c118 : T 118) : compFn Tryz.prog 56 = some ⟨137, (s56 c98 c100 c106 c111 c112 c113 c114 c115 c116 c117 c118).er, r56⟩ := by kernel_rfl
abbrev q56 (O : Ops Tryz.prog) (c98 : T 98) (c100 : T 100) (c106 : T 106) (c111 : T 111) (c112 : T 112) (c113 : T 113) (c114 : T 114) (c115 : T 115) (c116 : T 116) (c117 : T 117) (c118 : T 118) := curF 2 (sfn O (s56 c98 c100 c106 c111 c112 c113 c114 c115 c116 c117 c118) r56)
def g56 : { g // g = q56 } := by
  have h : q56 = q56 := rfl
  conv at h => rhs; reduce
  exact ⟨_, h.symm⟩
def C56 : T 56 := mkRun 2 (k56 C98 C100 C106 C111 C112 C113 C114 C115 C116 C117 C118) (by decide) (g56.1 (theOps Tryz.prog) C98 C100 C106 C111 C112 C113 C114 C115 C116 C117 C118) (by rw [g56.2])
def A56 : U := ⟨56, C56⟩
def s199 : S := .seq (.reg [mK 6 (.p none)]) (.seq (.reg [mM 7 0, mM 8 1, mU 9 (.mxmn false [8, .c 1024]), mU 10 (.mxmn true [.c 0, 9]), mM 11 2, mU 12 (.mxmn false [11, .c 1024]), mU 13 (.mxmn true [.c 0, 12]), mN 14 .mkmap, mU 15 (.build [.i .u32 0, 0, 0, 0, .m none, .s [], 0, .b false] [(0, (1, 7)), (1, (1, 10)), (2, (1, 13)), (4, (1, 14)), (6, (1, .c (.i .i64 (-1))))]), mN 16 (.box 15), mM 6 16]) .ret)
def r199 : List ARes := [.t 6]
theorem k199 : compFn Tryz.prog 199 = some ⟨17, (s199).er, r199⟩ := by kernel_rfl
abbrev q199 (O : Ops Tryz.prog) := curF 3 (sfn O (s199) r199)
def g199 : { g // g = q199 } := by
  have h : q199 = q199 := rfl
  conv at h => rhs; reduce
  exact ⟨_, h.symm⟩
def C199 : T 199 := mkRun 3 (k199) (by decide) (g199.1 (theOps Tryz.prog)) (by rw [g199.2])
def s293 : S := .seq (.reg [mK 2 (.i .u32 0)]) (.seq (.reg [mM 3 0, mU 4 (.conv .u32 3), mM 2 4]) .ret)
def r293 : List ARes := [.t 2]
theorem k293 : compFn Tryz.prog 293 = some ⟨5, (s293).er, r293⟩ := by kernel_rfl
abbrev q293 (O : Ops Tryz.prog) := curF 1 (sfn O (s293) r293)
def g293 : { g // g = q293 } := by
  have h : q293 = q293 := rfl
  conv at h => rhs; reduce
  exact ⟨_, h.symm⟩
def C293 : T 293 := mkRun 1 (k293) (by decide) (g293.1 (theOps Tryz.prog)) (by rw [g293.2])
def s225 (c293 : T 293) : S := .seq (.reg [mK 4 (.i .u32 0)]) (.seq (.reg [mM 5 0, mM 6 1, mQ 7 293 [6] c293, mB .add 8 5 7, mM 4 8]) .ret)
def r225 : List ARes := [.t 4]
theorem k225 (c293 : T 293) : compFn Tryz.prog 225 = some ⟨9, (s225 c293).er, r225⟩ := by kernel_rfl
abbrev q225 (O : Ops Tryz.prog) (c293 : T 293) := curF 2 (sfn O (s225 c293) r225)
def g225 : { g // g = q225 } := by
  have h : q225 = q225 := rfl
  conv at h => rhs; reduce
  exact ⟨_, h.symm⟩
def C225 : T 225 := mkRun 2 (k225 C293) (by decide) (g225.1 (theOps Tryz.prog) C293) (by rw [g225.2])
def s202 (c225 : T 225) : S := .seq (.reg [mK 4 (.i .u32 0)]) (.seq (.reg [mM 5 0, mU 6 (.nilCheck 5), mF 0 7 6, mL 8 7, mM 9 1, mQ 10 225 [8, 9] c225, mM 4 10]) .ret)
def r202 : List ARes := [.t 4]
theorem k202 (c225 : T 225) : compFn Tryz.prog 202 = some ⟨11, (s202 c225).er, r202⟩ := by kernel_rfl
abbrev q202 (O : Ops Tryz.prog) (c225 : T 225) := curF 2 (sfn O (s202 c225) r202)
def g202 : { g // g = q202 } := by
  have h : q202 = q202 := rfl
  conv at h => rhs; reduce
  exact ⟨_, h.symm⟩
def C202 : T 202 := mkRun 2 (k202 C225) (by decide) (g202.1 (theOps Tryz.prog) C225) (by rw [g202.2])
def s203 : S := .seq (.reg [mK 2 0]) (.seq (.reg [mM 3 0, mU 4 (.nilCheck 3), mF 3 5 4, mL 6 5, mM 2 6]) .ret)
def r203 : List ARes := [.t 2]
theorem k203 : compFn Tryz.prog 203 = some ⟨7, (s203).er, r203⟩ := by kernel_rfl
abbrev q203 (O : Ops Tryz.prog) := curF 1 (sfn O (s203) r203)
def g203 : { g // g = q203 } := by
  have h : q203 = q203 := rfl
  conv at h => rhs; reduce
  exact ⟨_, h.symm⟩
def C203 : T 203 := mkRun 1 (k203) (by decide) (g203.1 (theOps Tryz.prog)) (by rw [g203.2])
def s363 : S := .seq (.reg [mN 1 (.box 0), mK 2 0]) (.seq (.reg [mF 0 3 1, mF 6 4 3, mL 5 4, mU 6 (.lenS 5), mB .add 7 (.c 20) 6, mM 2 7]) .ret)
def r363 : List ARes := [.t 2]
theorem k363 : compFn Tryz.prog 363 = some ⟨8, (s363).er, r363⟩ := by kernel_rfl
abbrev q363 (O : Ops Tryz.prog) := curF 1 (sfn O (s363) r363)
def g363 : { g // g = q363 } := by
  have h : q363 = q363 := rfl
  conv at h => rhs; reduce
  exact ⟨_, h.symm⟩
def C363 : T 363 := mkRun 1 (k363) (by decide) (g363.1 (theOps Tryz.prog)) (by rw [g363.2])
def s383 : S := .seq (.reg [mK 4 (.b false)]) (.seq (.reg [mM 5 0, mB .geq 6 5 (.c 0), mM 7 6, (mM 8 0).g 7 true, (mM 9 1).g 7 true, (mB .leq 10 8 9).g 7 true, mU 11 (.pick 7 10 (.c (.b false))), mM 4 11]) .ret)
def r383 : List ARes := [.t 4]
theorem k383 : compFn Tryz.prog 383 = some ⟨12, (s383).er, r383⟩ := by kernel_rfl
abbrev q383 (O : Ops Tryz.prog) := curF 2 (sfn O (s383) r383)
def g383 : { g // g = q383 } := by
  have h : q383 = q383 := rfl
  conv at h => rhs; reduce
  exact ⟨_, h.symm⟩
def C383 : T 383 := mkRun 2 (k383) (by decide) (g383.1 (theOps Tryz.prog)) (by rw [g383.2])
def s364 (c383 : T 383) : S := .seq (.reg [mN 1 (.box 0), mK 2 (.b false)]) (.seq (.reg [mF 0 3 1, mL 4 3, mQ 5 383 [4, .c 65535] c383, mM 6 5, (mF 1 7 1).g 6 true, (mL 8 7).g 6 true, (mQ 9 383 [8, .c 65535] c383).g 6 true, mU 10 (.pick 6 9 (.c (.b false))), mM 11 10, (mF 5 12 1).g 11 true, (mL 13 12).g 11 true, (mQ 14 383 [13, .c 65535] c383).g 11 true, mU 15 (.pick 11 14 (.c (.b false))), mM 16 15, (mF 4 17 1).g 16 true, (mL 18 17).g 16 true, (mQ 19 383 [18, .c 63] c383).g 16 true, mU 20 (.pick 16 19 (.c (.b false))), mM 21 20, (mF 6 22 1).g 21 true, (mL 23 22).g 21 true, (mU 24 (.lenS 23)).g 21 true, (mB .leq 25 24 (.c 40)).g 21 true, mU 26 (.pick 21 25 (.c (.b false))), mM 27 26, (mF 6 28 1).g 27 true, (mL 29 28).g 27 true, (mU 30 (.lenS 29)).g 27 true, (mB .rem 31 30 (.c 4)).g 27 true, (mB .eql 32 31 (.c 0)).g 27 true, mU 33 (.pick 27 32 (.c (.b false))), mM 2 33]) .ret)
def r364 : List ARes := [.t 2]
theorem k364 (c383 : T 383) : compFn Tryz.prog 364 = some ⟨34, (s364 c383).er, r364⟩ := by kernel_rfl
abbrev q364 (O : Ops Tryz.prog) (c383 : T 383) := curF 1 (sfn O (s364 c383) r364)
def g364 : { g // g = q364 } := by
  have h : q364 = q364 := rfl
  conv at h => rhs; reduce
  exact ⟨_, h.symm⟩
def C364 : T 364 := mkRun 1 (k364 C383) (by decide) (g364.1 (theOps Tryz.prog) C383) (by rw [g364.2])
def s326 (c172 : T 172) (c252 : T 252) (c254 : T 254) (c363 : T 363) (c364 : T 364) : S := .seq (.reg [mN 6 (.box 2), mK 8 (.s []), mK 9 0]) (.join [3, 6, 10] [] (.reg [mR 14 (.ldN 7 6), mM 15 0, mM 16 1, mU 17 (.build [0, 0, .i .u32 0, .i .u32 0, 0, 0, .s [], .i .u32 0, .i .u32 0] [(0, (7, 14)), (7, (1, 15)), (8, (1, 16))]), mN 10 (.newz [0, 0, .i .u32 0, .i .u32 0, 0, 0, .s [], .i .u32 0, .i .u32 0]), mZ (.st 9 10 17)]) (.join [3, 6, 10, 11] [] (.reg [mR 18 (.ldN 9 10), mQ 19 363 [18] c363, mM 20 3, mU 21 (.lenS 20), mB .add 22 19 21, mM 11 22]) (.join [3, 10, 11] [] (.block 0 (.seq (.reg [mR 24 (.ldN 7 6), mQ 25 364 [24] c364, mU 26 (.un .not 25), mM 23 26]) (.cond 23 (.seq (.reg [mK 8 (.s []), mK 9 1]) .ret) (.seq (.reg [mM 28 11, mB .gtr 29 28 (.c 2000), mM 27 29]) (.cond 27 (.seq (.reg [mK 8 (.s []), mK 9 5]) .ret) .skip))))) (.join [3, 10, 11, 12] [] (.draw 0 [⟨[], [dP 0 30 (.fieldAddr 0 10) 0, dP 1 31 (.fieldAddr 0 30) 0, dR 2 32 (.ld1 31) 0, dP 4 34 (.fieldAddr 0 10) 1, dP 5 35 (.fieldAddr 1 34) 1, dR 6 36 (.ld1 35) 1, dP 9 39 (.fieldAddr 0 10) 2, dP 10 40 (.fieldAddr 2 39) 2, dR 11 41 (.ld1 40) 2, dP 12 42 (.conv .i64 41) 2, dP 15 45 (.fieldAddr 0 10) 3, dP 16 46 (.fieldAddr 3 45) 3, dR 17 47 (.ld1 46) 3, dP 18 48 (.conv .i64 47) 3, dR 21 51 (.ldN 9 10) 4, dP 27 57 (.fieldAddr 0 10) 6, dP 28 58 (.fieldAddr 4 57) 6, dR 29 59 (.ld1 58) 6, dP 32 62 (.fieldAddr 0 10) 7, dP 33 63 (.fieldAddr 5 62) 7, dR 34 64 (.ld1 63) 7], some (mQ 33 254 [32, .c 2] c254)⟩, ⟨[⟨some 36, .read (.ld1 35), none⟩, ⟨some 41, .read (.ld1 40), none⟩, ⟨some 47, .read (.ld1 46), none⟩, ⟨some 51, .read (.ldN 9 10), none⟩, ⟨some 59, .read (.ld1 58), none⟩, ⟨some 64, .read (.ld1 63), none⟩], [], some (mQ 37 254 [36, .c 2] c254)⟩, ⟨[⟨some 41, .read (.ld1 40), none⟩, ⟨some 47, .read (.ld1 46), none⟩, ⟨some 51, .read (.ldN 9 10), none⟩, ⟨some 59, .read (.ld1 58), none⟩, ⟨some 64, .read (.ld1 63), none⟩], [dP 8 38 (.bin .add 33 37) 8], some (mQ 43 254 [42, .c 4] c254)⟩, ⟨[⟨some 47, .read (.ld1 46), none⟩, ⟨some 51, .read (.ldN 9 10), none⟩, ⟨some 59, .read (.ld1 58), none⟩, ⟨some 64, .read (.ld1 63), none⟩], [dP 14 44 (.bin .add 38 43) 8], some (mQ 49 254 [48, .c 4] c254)⟩, ⟨[⟨some 51, .read (.ldN 9 10), none⟩, ⟨some 59, .read (.ld1 58), none⟩, ⟨some 64, .read (.ld1 63), none⟩], [dP 20 50 (.bin .add 44 49) 8], some (mQ 52 363 [51] c363)⟩, ⟨[⟨some 59, .read (.ld1 58), none⟩, ⟨some 64, .read (.ld1 63), none⟩], [dP 23 53 (.bin .quo 52 (.c 4)) 5, dP 24 54 (.bin .shl 53 (.c (.i .u64 4))) 5], some (mQ 55 254 [54, .c 1] c254)⟩, ⟨[⟨some 59, .read (.ld1 58), none⟩, ⟨some 64, .read (.ld1 63), none⟩], [dP 26 56 (.bin .add 50 55) 8], some (mQ 60 254 [59, .c 1] c254)⟩, ⟨[⟨some 64, .read (.ld1 63), none⟩], [dP 31 61 (.bin .add 56 60) 8], some (mQ 65 254 [64, .c 2] c254)⟩, ⟨[], [dP 36 66 (.bin .add 61 65) 8, dP 37 12 (.mv 66) 8], none⟩]) (.seq (.reg [mF 0 67 10, mF 6 68 67, mL 69 68, mB .add 70 (.c (.s [0, 0])) 69, mM 71 3, mB .add 72 70 71, mM 13 72]) (.seq (.reg [mM 73 12, mR 74 (.ldN 9 10), mM 75 11, mQ 76 252 [74, 75] c252, mM 77 12, mM 78 13, mN 79 (.bslice 1 4 [.s [], .s [], .s [], .s []] [(0, (1, 76)), (1, (1, 77)), (2, (1, .c (.s [0, 0]))), (3, (1, 78))]), mQ 80 172 [79] c172, mQ 81 254 [80, .c 2] c254, mB .add 82 73 81, mM 83 13, mB .add 84 82 83, mM 8 84, mK 9 0]) .ret))))))
def r326 : List ARes := [.t 8, .t 9]
theorem k326 (c172 : T 172) (c252 : T 252) (c254 : T 254) (c363 : T 363) (c364 : T 364) : compFn Tryz.prog 326 = some ⟨85, (s326 c172 c252 c254 c363 c364).er, r326⟩ := by kernel_rfl
abbrev q326 (O : Ops Tryz.prog) (c172 : T 172) (c252 : T 252) (c254 : T 254) (c363 : T 363) (c364 : T 364) := curF 4 (sfn O (s326 c172 c252 c254 c363 c364) r326)
def g326 : { g // g = q326 } := by
  have h : q326 = q326 := rfl
  conv at h => rhs; reduce
  exact ⟨_, h.symm⟩
def C326 : T 326 := mkRun 4 (k326 C172 C252 C254 C363 C364) (by decide) (g326.1 (theOps Tryz.prog) C172 C252 C254 C363 C364) (by rw [g326.2])
def s272 (c106 : T 106) (c326 : T 326) : S := .join [3, 4, 5, 6] [] (.reg [mN 4 (.box 0), mN 5 (.box 1), mN 6 (.box 2), mK 8 (.s [])]) (.seq (.reg [mF 7 12 5, mL 13 12, mF 8 14 5, mL 15 14, mR 16 (.ldN 7 6), mM 17 3, mQ 18 326 [13, 15, 16, 17] c326, mM 11 18, mU 19 (.extract 0 11), mU 20 (.extract 1 11), mM 9 19, mM 10 20]) (.seq (.seq (.reg [mM 21 10, mB .neq 22 21 (.c 0)]) (.cond 22 (.seq (.reg [mK 8 (.s [])]) .ret) .skip)) (.seq (.reg [mR 23 (.ldN 13 4), mR 24 (.ldN 10 5), mM 25 9, mQ 26 106 [23, 24, 25] c106, mM 8 26]) .ret)))
def r272 : List ARes := [.t 8]
theorem k272 (c106 : T 106) (c326 : T 326) : compFn Tryz.prog 272 = some ⟨27, (s272 c106 c326).er, r272⟩ := by kernel_rfl
abbrev q272 (O : Ops Tryz.prog) (c106 : T 106) (c326 : T 326) := curF 4 (sfn O (s272 c106 c326) r272)
def g272 : { g // g = q272 } := by
  have h : q272 = q272 := rfl
  conv at h => rhs; reduce
  exact ⟨_, h.symm⟩
def C272 : T 272 := mkRun 4 (k272 C106 C326) (by decide) (g272.1 (theOps Tryz.prog) C106 C326) (by rw [g272.2])
def s206 (c100 : T 100) (c202 : T 202) (c272 : T 272) : S := .seq (.reg [mK 10 (.b false)]) (.join [0, 1, 2, 3, 4, 11] [] (.reg [mM 12 1, mU 13 (.nilCheck 12), mF 26 14 13, mR 15 (.ldN 7 14), mN 11 (.newz [0, 0, .i .u32 0, .i .u32 0, 0, 0, .s []]), mZ (.st 7 11 15)]) (.join [0, 1, 3, 4, 11] [] (.draw 0 [⟨[], [dP 0 16 (.mv 1) 0, dP 1 17 (.nilCheck 16) 0, dP 2 18 (.fieldAddr 42 17) 0, dR 3 19 (.ld1 18) 0, dP 4 20 (.mv 1) 0, dP 5 21 (.nilCheck 20) 0, dP 6 22 (.fieldAddr 40 21) 0, dR 7 23 (.ld1 22) 0, dP 8 24 (.nilCheck 19) 0, dP 9 25 (.fieldAddr 8 24) 0, dP 10 26 (.idxAddrArr 2 1 25 23) 0, dR 11 27 (.ld1 26) 0, dP 12 28 (.mv 2) 0], some (mQ 29 202 [27, 28] c202)⟩, ⟨[], [dP 14 30 (.fieldAddr 2 11) 1], some (mZ (.st 1 30 29))⟩, ⟨[], [], none⟩]) (.join [0, 1, 3, 4, 11] [] (.reg [mF 4 31 11, mL 32 31, mB .andNot 33 32 (.c 1), mF 4 34 11, mZ (.st 1 34 33)]) (.join [0, 1, 3, 11] [] (.seq (.reg [mM 35 4]) (.cond 35 (.reg [mF 4 36 11, mL 37 36, mB .or 38 37 (.c 1), mF 4 39 11, mZ (.st 1 39 38)]) .skip)) (.seq (.draw 0 [⟨[], [dP 0 40 (.mv 0) 1, dP 1 41 (.mv 1) 1, dP 2 42 (.mv 1) 0, dP 3 43 (.nilCheck 42) 0, dP 4 44 (.fieldAddr 2 43) 0, dR 5 45 (.ldN 13 44) 0, dP 6 46 (.mv 1) 0, dP 7 47 (.nilCheck 46) 0, dP 8 48 (.fieldAddr 15 47) 0, dR 9 49 (.ldN 10 48) 0, dR 10 50 (.ldN 7 11) 0, dP 11 51 (.mv 3) 0], some (mQ 52 272 [45, 49, 50, 51] c272)⟩, ⟨[], [], some (mQ 53 100 [40, 41, 52] c100)⟩, ⟨[], [dP 14 10 (.mv 53) 2], none⟩]) .ret)))))
def r206 : List ARes := [.t 10]
theorem k206 (c100 : T 100) (c202 : T 202) (c272 : T 272) : compFn Tryz.prog 206 = some ⟨54, (s206 c100 c202 c272).er, r206⟩ := by kernel_rfl
abbrev q206 (O : Ops Tryz.prog) (c100 : T 100) (c202 : T 202) (c272 : T 272) := curF 5 (sfn O (s206 c100 c202 c272) r206)
def g206 : { g // g = q206 } := by
  have h : q206 = q206 := rfl
  conv at h => rhs; reduce
  exact ⟨_, h.symm⟩
def C206 : T 206 := mkRun 5 (k206 C100 C202 C272) (by decide) (g206.1 (theOps Tryz.prog) C100 C202 C272) (by rw [g206.2])
def s325 : S := .join [1, 2] [] (.reg [mN 1 (.box 0), mN 2 (.newz [.i .u8 0, .i .u8 0, .i .u8 0, .i .u8 0, .i .u8 0, .i .u8 0, .i .u8 0, .i .u8 0, .i .u8 0, .i .u8 0, .i .u8 0, .i .u8 0, 0, 0, 0, .b false, .b false, 0, 0, 0, .i .u32 0, .i .u32 0, .s []])]) (.seq (.reg [mF 13 3 1, mF 2 4 3, mZ (.st 1 4 (.c (.b false))), mF 13 5 1, mF 3 6 5, mZ (.st 1 6 (.c (.b false))), mF 13 7 1, mF 4 8 7, mZ (.st 1 8 (.c 0)), mF 13 9 1, mF 9 10 9, mZ (.st 1 10 (.c (.s [])))]) (.seq (.reg [mR 11 (.ldN 23 1), mZ (.st 23 2 11)]) .ret))
def r325 : List ARes := [.c true 23 2]
theorem k325 : compFn Tryz.prog 325 = some ⟨12, (s325).er, r325⟩ := by kernel_rfl
abbrev q325 (O : Ops Tryz.prog) := curF 1 (sfn O (s325) r325)
def g325 : { g // g = q325 } := by
  have h : q325 = q325 := rfl
  conv at h => rhs; reduce
  exact ⟨_, h.symm⟩
def C325 : T 325 := mkRun 1 (k325) (by decide) (g325.1 (theOps Tryz.prog)) (by rw [g325.2])
def A325 : U := ⟨325, C325⟩
def s271 (c272 : T 272) (a196 : U) (a325 : U) : S := .join [3, 4, 5, 6, 7, 8] [] (.reg [mN 6 (.box 0), mN 7 (.box 1), mN 8 (.box 2), mK 12 (.s [])]) (.seq (.reg [mU 13 (.mv (.fn 325))]) (.join [3, 4, 6, 7, 8, 13] [] (.seq (.reg [mM 15 5]) (.cond 15 (.draw 0 [⟨[], [dP 0 16 (.fieldAddr 1 8) 0, dR 1 17 (.ld1 16) 0, dP 2 18 (.fieldAddr 0 8) 0, dR 3 19 (.ld1 18) 0, dP 4 13 (.mv (.fn 196)) 0, dP 5 20 (.fieldAddr 0 8) 0], some (mZ (.st 1 20 17))⟩, ⟨[], [dP 7 21 (.fieldAddr 1 8) 1], some (mZ (.st 1 21 19))⟩, ⟨[], [], none⟩]) .skip)) (.join [3, 4, 8, 14] [] (.reg [mM 22 13, mR 23 (.ldN 13 6), mR 24 (.ldN 10 7), mU 25 (.build [.i .u8 0, .i .u8 0, .i .u8 0, .i .u8 0, .i .u8 0, .i .u8 0, .i .u8 0, .i .u8 0, .i .u8 0, .i .u8 0, .i .u8 0, .i .u8 0, 0, 0, 0, .b false, .b false, 0, 0, 0, .i .u32 0, .i .u32 0, .s []] [(0, (13, 23)), (13, (10, 24))]), mV 26 22 [25] [a196, a325] [], mN 14 (.newz [.i .u8 0, .i .u8 0, .i .u8 0, .i .u8 0, .i .u8 0, .i .u8 0, .i .u8 0, .i .u8 0, .i .u8 0, .i .u8 0, .i .u8 0, .i .u8 0, 0, 0, 0, .b false, .b false, 0, 0, 0, .i .u32 0, .i .u32 0, .s []]), mZ (.st 23 14 26)]) (.seq (.reg [mF 0 27 14, mR 28 (.ldN 13 27), mF 13 29 14, mR 30 (.ldN 10 29), mF 0 31 8, mL 32 31, mF 1 33 8, mL 34 33, mM 35 3, mM 36 4, mU 37 (.build [0, 0, .i .u32 0, .i .u32 0, 0, 0, .s []] [(0, (1, 32)), (1, (1, 34)), (2, (1, 35)), (3, (1, 36)), (4, (1, .c 20))]), mQ 38 272 [28, 30, 37, .c (.s [])] c272, mM 12 38]) .ret))))
def r271 : List ARes := [.t 12]
theorem k271 (c272 : T 272) (a196 : U) (a325 : U) : compFn Tryz.prog 271 = some ⟨39, (s271 c272 a196 a325).er, r271⟩ := by kernel_rfl
abbrev q271 (O : Ops Tryz.prog) (c272 : T 272) (a196 : U) (a325 : U) := curF 6 (sfn O (s271 c272 a196 a325) r271)
def g271 : { g // g = q271 } := by
  have h : q271 = q271 := rfl
  conv at h => rhs; reduce
  exact ⟨_, h.symm⟩
def C271 : T 271 := mkRun 6 (k271 C272 A196 A325) (by decide) (g271.1 (theOps Tryz.prog) C272 A196 A325) (by rw [g271.2])
def s200 (c116 : T 116) (c118 : T 118) (c202 : T 202) (c203 : T 203) (c206 : T 206) (c271 : T 271) : S := .seq (.reg [mN 9 (.box 4)]) (.join [0, 1, 2, 3, 9, 10] [] (.reg [mM 15 1, mU 16 (.nilCheck 15), mF 42 17 16, mL 18 17, mM 10 18]) (.join [0, 1, 2, 3, 9, 10, 11, 12] [] (.draw 0 [⟨[], [dP 0 19 (.mv 10) 0, dP 1 20 (.mv 1) 0, dP 2 21 (.nilCheck 20) 0, dP 3 22 (.fieldAddr 40 21) 0, dR 4 23 (.ld1 22) 0, dP 5 24 (.nilCheck 19) 0, dP 6 25 (.fieldAddr 8 24) 0, dP 7 26 (.idxAddrArr 2 1 25 23) 0, dR 8 27 (.ld1 26) 0, dP 9 28 (.mv 10) 0, dP 10 29 (.mv 1) 0, dP 11 30 (.nilCheck 29) 0, dP 12 31 (.fieldAddr 40 30) 0, dR 13 32 (.ld1 31) 0, dP 14 33 (.bin .sub (.c 1) 32) 0, dP 15 34 (.nilCheck 28) 0, dP 16 35 (.fieldAddr 8 34) 0, dP 17 36 (.idxAddrArr 2 1 35 33) 0, dR 18 37 (.ld1 36) 0, dP 19 11 (.mv 27) 0, dP 20 12 (.mv 37) 0], none⟩]) (.join [0, 1, 2, 3, 10, 11, 12] [] (.join [0, 1, 2, 3, 9, 10, 11, 12, 42] [] (.reg [mM 38 3, mB .sub 39 38 (.c 1), mF 1 40 9, mL 41 40, mB .gtr 42 39 41]) (.cond 42 (.draw 0 [⟨[], [dP 0 43 (.mv 0) 0, dP 1 44 (.mv 1) 0, dP 2 45 (.fieldAddr 1 9) 0, dR 3 46 (.ld1 45) 0, dP 4 47 (.fieldAddr 2 9) 0, dR 5 48 (.ld1 47) 0, dP 6 49 (.mv 3) 0, dP 7 50 (.bin .sub 49 (.c 1)) 0, dP 8 51 (.fieldAddr 1 9) 0, dR 9 52 (.ld1 51) 0, dP 10 53 (.bin .sub 50 52) 0, dP 11 54 (.slStr 48 none (some 53)) 0], some (mQ 55 206 [43, 44, 46, 54, .c (.b false)] c206)⟩, ⟨[], [], none⟩]) .skip)) (.join [0, 1, 2, 3, 10, 11, 12] [] (.reg [mM 56 0, mU 57 (.nilCheck 56), mF 15 58 57, mF 4 59 58, mL 60 59, mB .add 61 60 (.c 1), mU 62 (.nilCheck 56), mF 15 63 62, mF 4 64 63, mZ (.st 1 64 61)]) (.join [0, 1, 2, 3, 10, 11, 12] [] (.reg [mM 65 10, mU 66 (.nilCheck 65), mF 12 67 66, mZ (.st 1 67 (.c (.b true)))]) (.seq (.reg [mM 68 2]) (.block 0 (.seq (.reg [mB .eql 70 68 (.c 3), mM 69 70]) (.cond 69 (.join [1, 3, 11, 12, 13, 14] [] (.draw 0 [⟨[], [dP 0 71 (.mv 1) 0, dP 1 72 (.nilCheck 71) 0, dP 2 73 (.fieldAddr 26 72) 0, dP 3 74 (.fieldAddr 3 73) 0, dR 4 75 (.ld1 74) 0, dP 5 76 (.mv 1) 0, dP 6 77 (.nilCheck 76) 0, dP 7 78 (.fieldAddr 26 77) 0, dP 8 79 (.fieldAddr 2 78) 0, dR 9 80 (.ld1 79) 0, dP 10 81 (.bin .add 80 (.c (.i .u32 1))) 0, dP 11 13 (.mv 75) 0, dP 12 14 (.mv 81) 0], none⟩]) (.join [1, 3, 11, 13, 14] [] (.seq (.reg [mM 82 12, mR 83 (.peq true 82 (.c (.p none)))]) (.cond 83 (.reg [mM 84 12, mM 85 12, mQ 86 203 [85] c203, mQ 87 202 [84, 86] c202, mM 13 87]) .skip)) (.join [1, 13, 14] [] (.seq (.reg [mM 88 3, mB .gtr 89 88 (.c 0)]) (.cond 89 (.join [1, 13, 14] [] (.reg [mM 90 11, mM 91 3, mB .sub 92 91 (.c 1), mQ 93 202 [90, 92] c202, mM 14 93]) (.draw 0 [⟨[], [dP 0 94 (.mv 1) 1, dP 1 95 (.mv 1) 1, dP 2 96 (.nilCheck 95) 1, dP 3 97 (.fieldAddr 0 96) 1, dR 4 98 (.ld1 97) 1, dP 5 99 (.bin .sub (.c 1) 98) 1, dP 6 100 (.mv 1) 0, dP 7 101 (.nilCheck 100) 0, dP 8 102 (.fieldAddr 2 101) 0, dR 9 103 (.ldN 13 102) 0, dP 10 104 (.mv 1) 0, dP 11 105 (.nilCheck 104) 0, dP 12 106 (.fieldAddr 15 105) 0, dR 13 107 (.ldN 10 106) 0, dP 14 108 (.mv 1) 0, dP 15 109 (.nilCheck 108) 0, dP 16 110 (.fieldAddr 26 109) 0, dR 17 111 (.ldN 7 110) 0, dP 18 112 (.mv 14) 0, dP 19 113 (.mv 13) 0], some (mQ 114 271 [103, 107, 111, 112, 113, .c (.b false)] c271)⟩, ⟨[⟨some 98, .read (.ld1 97), none⟩], [], some (mQ 115 116 [94, 99, 114] c116)⟩, ⟨[], [], none⟩])) .skip)) (.draw 0 [⟨[], [dP 0 116 (.mv 1) 1, dP 1 117 (.mv 1) 1, dP 2 118 (.nilCheck 117) 1, dP 3 119 (.fieldAddr 0 118) 1, dR 4 120 (.ld1 119) 1, dP 5 121 (.mv 1) 0, dP 6 122 (.nilCheck 121) 0, dP 7 123 (.fieldAddr 2 122) 0, dR 8 124 (.ldN 13 123) 0, dP 9 125 (.mv 1) 0, dP 10 126 (.nilCheck 125) 0, dP 11 127 (.fieldAddr 15 126) 0, dR 12 128 (.ldN 10 127) 0, dP 13 129 (.mv 1) 0, dP 14 130 (.nilCheck 129) 0, dP 15 131 (.fieldAddr 26 130) 0, dR 16 132 (.ldN 7 131) 0, dP 17 133 (.mv 13) 0, dP 18 134 (.mv 14) 0], some (mQ 135 271 [124, 128, 132, 133, 134, .c (.b true)] c271)⟩, ⟨[⟨some 120, .read (.ld1 119), none⟩], [], some (mQ 136 116 [116, 120, 135] c116)⟩, ⟨[], [], none⟩])))) (.seq (.reg [mB .eql 138 68 (.c 4), mM 137 138]) (.cond 137 (.draw 0 [⟨[], [dP 0 139 (.mv 0) 0, dP 1 140 (.nilCheck 139) 0, dP 2 141 (.fieldAddr 13 140) 0, dR 3 142 (.ld1 141) 0, dP 4 143 (.mv 10) 0, dP 5 144 (.nilCheck 143) 0, dP 6 145 (.fieldAddr 0 144) 0, dR 7 146 (.ldN 5 145) 0], some (mQ 147 118 [142, 146] c118)⟩, ⟨[], [], none⟩]) .skip)))))))))))
def r200 : List ARes := []
theorem k200 (c116 : T 116) (c118 : T 118) (c202 : T 202) (c203 : T 203) (c206 : T 206) (c271 : T 271) : compFn Tryz.prog 200 = some ⟨148, (s200 c116 c118 c202 c203 c206 c271).er, r200⟩ := by kernel_rfl
abbrev q200 (O : Ops Tryz.prog) (c116 : T 116) (c118 : T 118) (c202 : T 202) (c203 : T 203) (c206 : T 206) (c271 : T 271) := curF 5 (sfn O (s200 c116 c118 c202 c203 c206 c271) r200)
def g200 : { g // g = q200 } := by
  have h : q200 = q200 := rfl
  conv at h => rhs; reduce
  exact ⟨_, h.symm⟩
def C200 : T 200 := mkRun 5 (k200 C116 C118 C202 C203 C206 C271) (by decide) (g200.1 (theOps Tryz.prog) C116 C118 C202 C203 C206 C271) (by rw [g200.2])
def s201 (c100 : T 100) (c272 : T 272) : S := .seq (.reg [mK 4 (.b false)]) (.seq (.draw 0 [⟨[], [dP 0 5 (.mv 0) 1, dP 1 6 (.mv 1) 1, dP 2 7 (.mv 1) 0, dP 3 8 (.nilCheck 7) 0, dP 4 9 (.fieldAddr 2 8) 0, dR 5 10 (.ldN 13 9) 0, dP 6 11 (.mv 1) 0, dP 7 12 (.nilCheck 11) 0, dP 8 13 (.fieldAddr 15 12) 0, dR 9 14 (.ldN 10 13) 0, dP 10 15 (.mv 1) 0, dP 11 16 (.nilCheck 15) 0, dP 12 17 (.fieldAddr 26 16) 0, dR 13 18 (.ldN 7 17) 0, dP 14 19 (.mv 1) 0, dP 15 20 (.nilCheck 19) 0, dP 16 21 (.fieldAddr 33 20) 0, dR 17 22 (.ld1 21) 0], some (mQ 23 272 [10, 14, 18, 22] c272)⟩, ⟨[], [], some (mQ 24 100 [5, 6, 23] c100)⟩, ⟨[], [dP 20 4 (.mv 24) 2], none⟩]) .ret)
def r201 : List ARes := [.t 4]
theorem k201 (c100 : T 100) (c272 : T 272) : compFn Tryz.prog 201 = some ⟨25, (s201 c100 c272).er, r201⟩ := by kernel_rfl
abbrev q201 (O : Ops Tryz.prog) (c100 : T 100) (c272 : T 272) := curF 2 (sfn O (s201 c100 c272) r201)
def g201 : { g // g = q201 } := by
  have h : q201 = q201 := rfl
  conv at h => rhs; reduce
  exact ⟨_, h.symm⟩
def C201 : T 201 := mkRun 2 (k201 C100 C272) (by decide) (g201.1 (theOps Tryz.prog) C100 C272) (by rw [g201.2])
def s119 (c111 : T 111) (c112 : T 112) (c113 : T 113) (c114 : T 114) (c199 : T 199) (c200 : T 200) (c201 : T 201) : S := .seq (.reg [mK 4 (.b false)]) (.join [0, 1, 5] [] (.reg [mM 8 1, mU 9 (.nilCheck 8), mF 42 10 9, mL 11 10, mM 5 11]) (.join [0, 1, 5] [] (.draw 0 [⟨[], [dP 0 12 (.mv 5) 1, dP 1 13 (.mv 1) 1, dP 2 14 (.nilCheck 13) 1, dP 3 15 (.fieldAddr 40 14) 1, dR 4 16 (.ld1 15) 1, dP 5 17 (.mv 1) 0, dP 6 18 (.nilCheck 17) 0, dP 7 19 (.fieldAddr 26 18) 0, dP 8 20 (.fieldAddr 2 19) 0, dR 9 21 (.ld1 20) 0, dP 10 22 (.bin .add 21 (.c (.i .u32 1))) 0, dP 11 23 (.mv 0) 0, dP 12 24 (.nilCheck 23) 0, dP 13 25 (.fieldAddr 0 24) 0, dP 14 26 (.fieldAddr 2 25) 0, dR 15 27 (.ld1 26) 0, dP 16 28 (.mv 0) 0, dP 17 29 (.nilCheck 28) 0, dP 18 30 (.fieldAddr 0 29) 0, dP 19 31 (.fieldAddr 3 30) 0, dR 20 32 (.ld1 31) 0, dP 22 34 (.nilCheck 12) 1, dP 23 35 (.fieldAddr 8 34) 1], some (mQ 33 199 [22, 27, 32] c199)⟩, ⟨[⟨some 16, .read (.ld1 15), none⟩], [dP 24 36 (.idxAddrArr 2 1 35 16) 1], some (mZ (.st 1 36 33))⟩, ⟨[], [], none⟩]) (.join [0, 1, 5] [] (.draw 0 [⟨[], [dP 0 37 (.mv 5) 1, dP 1 38 (.mv 1) 1, dP 2 39 (.nilCheck 38) 1, dP 3 40 (.fieldAddr 40 39) 1, dR 4 41 (.ld1 40) 1, dP 5 42 (.mv 5) 0, dP 6 43 (.nilCheck 42) 0, dP 7 44 (.fieldAddr 5 43) 0, dR 8 45 (.ld1 44) 0, dP 9 46 (.mv 5) 0, dP 10 47 (.mv 1) 0, dP 11 48 (.nilCheck 47) 0, dP 12 49 (.fieldAddr 40 48) 0, dR 13 50 (.ld1 49) 0, dP 14 51 (.nilCheck 46) 0, dP 15 52 (.fieldAddr 6 51) 0, dP 16 53 (.idxAddrArr 2 1 52 50) 0, dR 17 54 (.ld1 53) 0, dP 18 55 (.mv 0) 0, dP 19 56 (.nilCheck 55) 0, dP 20 57 (.fieldAddr 0 56) 0, dP 21 58 (.fieldAddr 4 57) 0, dR 22 59 (.ld1 58) 0, dP 24 61 (.nilCheck 37) 1, dP 25 62 (.fieldAddr 10 61) 1], some (mQ 60 111 [45, 54, 59] c111)⟩, ⟨[⟨some 41, .read (.ld1 40), none⟩], [dP 26 63 (.idxAddrArr 2 1 62 41) 1], some (mZ (.st 1 63 60))⟩, ⟨[], [], none⟩]) (.seq (.draw 0 [⟨[], [dP 0 65 (.mv 5) 0, dP 1 66 (.mv 1) 0, dP 2 67 (.nilCheck 66) 0, dP 3 68 (.fieldAddr 40 67) 0, dR 4 69 (.ld1 68) 0, dP 5 70 (.nilCheck 65) 0, dP 6 71 (.fieldAddr 10 70) 0, dP 7 72 (.idxAddrArr 2 1 71 69) 0, dR 8 73 (.ld1 72) 0], some (mQ 74 112 [73] c112)⟩, ⟨[], [dP 10 64 (.mv 74) 1, dP 11 75 (.extract 0 64) 1, dP 12 76 (.extract 1 64) 1, dP 13 6 (.mv 75) 1, dP 14 7 (.mv 76) 1], none⟩]) (.seq (.reg [mM 77 0, mM 78 1, mM 79 6, mQ 80 113 [77, 78, 79] c113]) (.seq (.seq (.reg [mM 81 7, mQ 82 114 [81, .c 1] c114]) (.cond 82 (.seq (.reg [mM 83 0, mM 84 1, mM 85 7, mU 86 (.build [0, 0, .s [], .b false] []), mQ 87 200 [83, 84, 85, .c 0, 86] c200]) (.seq (.reg [mK 4 (.b false)]) .ret)) .skip)) (.seq (.reg [mM 88 0, mM 89 1, mQ 90 201 [88, 89] c201, mM 4 90]) .ret)))))))
def r119 : List ARes := [.t 4]
theorem k119 (c111 : T 111) (c112 : T 112) (c113 : T 113) (c114 : T 114) (c199 : T 199) (c200 : T 200) (c201 : T 201) : compFn Tryz.prog 119 = some ⟨91, (s119 c111 c112 c113 c114 c199 c200 c201).er, r119⟩ := by kernel_rfl
abbrev q119 (O : Ops Tryz.prog) (c111 : T 111) (c112 : T 112) (c113 : T 113) (c114 : T 114) (c199 : T 199) (c200 : T 200) (c201 : T 201) := curF 2 (sfn O (s119 c111 c112 c113 c114 c199 c200 c201) r119)
def g119 : { g // g = q119 } := by
  have h : q119 = q119 := rfl
  conv at h => rhs; reduce
  exact ⟨_, h.symm⟩
def C119 : T 119 := mkRun 2 (k119 C111 C112 C113 C114 C199 C200 C201) (by decide) (g119.1 (theOps Tryz.prog) C111 C112 C113 C114 C199 C200 C201) (by rw [g119.2])
def s120 : S := .seq (.reg [mK 4 (.b false)]) (.seq (.reg [mM 5 0, mU 6 (.nilCheck 5), mF 26 7 6, mF 4 8 7, mL 9 8, mM 10 1, mB .and 11 9 10, mB .neq 12 11 (.c 0), mM 4 12]) .ret)
def r120 : List ARes := [.t 4]
theorem k120 : compFn Tryz.prog 120 = some ⟨13, (s120).er, r120⟩ := by kernel_rfl
abbrev q120 (O : Ops Tryz.prog) := curF 2 (sfn O (s120) r120)
def g120 : { g // g = q120 } := by
  have h : q120 = q120 := rfl
  conv at h => rhs; reduce
  exact ⟨_, h.symm⟩
def C120 : T 120 := mkRun 2 (k120) (by decide) (g120.1 (theOps Tryz.prog)) (by rw [g120.2])
def s273 (c130 : T 130) : S := .seq (.reg [mN 3 (.box 1), mK 4 (.b false)]) (.seq (.reg [mM 5 0, mU 6 (.mkFunc 327 [] [3]), mQ 7 130 [5, 6] c130, mU 8 (.lenSl 7), mB .gtr 9 8 (.c 0), mM 4 9]) .ret)
def r273 : List ARes := [.t 4]
theorem k273 (c130 : T 130) : compFn Tryz.prog 273 = some ⟨10, (s273 c130).er, r273⟩ := by kernel_rfl
abbrev q273 (O : Ops Tryz.prog) (c130 : T 130) := curF 2 (sfn O (s273 c130) r273)
def g273 : { g // g = q273 } := by
  have h : q273 = q273 := rfl
  conv at h => rhs; reduce
  exact ⟨_, h.symm⟩
def C273 : T 273 := mkRun 2 (k273 C130) (by decide) (g273.1 (theOps Tryz.prog) C130) (by rw [g273.2])
def s204 (c273 : T 273) : S := .join [0, 1] [] (.draw 0 [⟨[], [dP 0 4 (.mv 0) 0, dP 1 5 (.nilCheck 4) 0, dP 2 6 (.fieldAddr 12 5) 0, dR 3 7 (.ld1 6) 0, dP 4 8 (.mv 1) 0, dP 5 9 (.nilCheck 8) 0, dP 6 10 (.fieldAddr 39 9) 0, dR 7 11 (.ld1 10) 0], some (mQ 12 273 [7, 11] c273)⟩, ⟨[], [], none⟩]) (.draw 0 [⟨[], [dP 0 13 (.mv 0) 0, dP 1 14 (.nilCheck 13) 0, dP 2 15 (.fieldAddr 14 14) 0, dR 3 16 (.ld1 15) 0, dP 4 17 (.mv 1) 0, dP 5 18 (.nilCheck 17) 0, dP 6 19 (.fieldAddr 39 18) 0, dR 7 20 (.ld1 19) 0], some (mZ (.del (.one .i) 16 20))⟩, ⟨[], [], none⟩])
def r204 : List ARes := []
theorem k204 (c273 : T 273) : compFn Tryz.prog 204 = some ⟨21, (s204 c273).er, r204⟩ := by kernel_rfl
abbrev q204 (O : Ops Tryz.prog) (c273 : T 273) := curF 2 (sfn O (s204 c273) r204)
def g204 : { g // g = q204 } := by
  have h : q204 = q204 := rfl
  conv at h => rhs; reduce
  exact ⟨_, h.symm⟩
def C204 : T 204 := mkRun 2 (k204 C273) (by decide) (g204.1 (theOps Tryz.prog) C273) (by rw [g204.2])
def s121 (c98 : T 98) (c120 : T 120) (c201 : T 201) (c202 : T 202) (c203 : T 203) (c204 : T 204) : S := .seq (.reg [mK 4 (.b false)]) (.join [0, 1, 5, 6] [] (.draw 0 [⟨[], [dP 0 8 (.mv 1) 0, dP 1 9 (.nilCheck 8) 0, dP 2 10 (.fieldAddr 42 9) 0, dR 3 11 (.ld1 10) 0, dP 4 12 (.mv 1) 0, dP 5 13 (.nilCheck 12) 0, dP 6 14 (.fieldAddr 40 13) 0, dR 7 15 (.ld1 14) 0, dP 8 16 (.nilCheck 11) 0, dP 9 17 (.fieldAddr 8 16) 0, dP 10 18 (.idxAddrArr 2 1 17 15) 0, dR 11 19 (.ld1 18) 0, dP 12 20 (.mv 1) 0, dP 13 21 (.nilCheck 20) 0, dP 14 22 (.fieldAddr 42 21) 0, dR 15 23 (.ld1 22) 0, dP 16 24 (.mv 1) 0, dP 17 25 (.nilCheck 24) 0, dP 18 26 (.fieldAddr 40 25) 0, dR 19 27 (.ld1 26) 0, dP 20 28 (.bin .sub (.c 1) 27) 0, dP 21 29 (.nilCheck 23) 0, dP 22 30 (.fieldAddr 8 29) 0, dP 23 31 (.idxAddrArr 2 1 30 28) 0, dR 24 32 (.ld1 31) 0, dP 25 5 (.mv 19) 0, dP 26 6 (.mv 32) 0], none⟩]) (.join [0, 1, 5, 6, 7] [] (.reg [mM 33 1, mU 34 (.nilCheck 33), mF 33 35 34, mL 36 35, mB .eql 37 36 (.c (.s [])), mM 38 37, (mM 39 1).g 38 true, (mQ 40 120 [39, .c 2] c120).g 38 true, (mU 41 (.un .not 40)).g 38 true, mU 42 (.pick 38 41 (.c (.b false))), mM 7 42]) (.join [0, 1, 7] [] (.block 0 (.seq (.reg [mM 44 5, mR 45 (.peq true 44 (.c (.p none))), mM 43 45]) (.cond 43 (.draw 0 [⟨[], [dP 0 46 (.mv 7) 0, dP 1 47 (.mv 46) 0, ⟨2, ⟨some 48, .pure (.mv 1), some (47, true)⟩, 2⟩, ⟨3, ⟨some 49, .pure (.nilCheck 48), some (47, true)⟩, 2⟩, ⟨4, ⟨some 50, .pure (.fieldAddr 26 49), some (47, true)⟩, 2⟩, ⟨5, ⟨some 51, .pure (.fieldAddr 2 50), some (47, true)⟩, 2⟩, ⟨6, ⟨some 52, .read (.ld1 51), some (47, true)⟩, 2⟩, ⟨7, ⟨some 53, .pure (.mv 5), some (47, true)⟩, 1⟩, ⟨8, ⟨some 54, .pure (.mv 5), some (47, true)⟩, 0⟩], some ((mQ 55 203 [54] c203).g 47 true)⟩, ⟨[⟨some 52, .read (.ld1 51), some (47, true)⟩], [], some ((mQ 56 202 [53, 55] c202).g 47 true)⟩, ⟨[⟨some 52, .read (.ld1 51), some (47, true)⟩], [⟨11, ⟨some 57, .pure (.bin .eql 52 56), some (47, true)⟩, 2⟩, dP 12 58 (.pick 47 57 (.c (.b false))) 2, dP 13 7 (.mv 58) 2], none⟩]) (.seq (.reg [mM 60 6, mR 61 (.peq true 60 (.c (.p none))), mM 59 61]) (.cond 59 (.draw 0 [⟨[], [dP 0 62 (.mv 7) 0, dP 1 63 (.mv 62) 0, ⟨2, ⟨some 64, .pure (.mv 1), some (63, true)⟩, 0⟩], some ((mQ 65 120 [64, .c 16] c120).g 63 true)⟩, ⟨[], [dP 4 66 (.pick 63 65 (.c (.b false))) 1, dP 5 67 (.mv 66) 1, ⟨6, ⟨some 68, .pure (.mv 1), some (67, true)⟩, 3⟩, ⟨7, ⟨some 69, .pure (.nilCheck 68), some (67, true)⟩, 3⟩, ⟨8, ⟨some 70, .pure (.fieldAddr 26 69), some (67, true)⟩, 3⟩, ⟨9, ⟨some 71, .pure (.fieldAddr 3 70), some (67, true)⟩, 3⟩, ⟨10, ⟨some 72, .read (.ld1 71), some (67, true)⟩, 3⟩, ⟨11, ⟨some 73, .pure (.mv 6), some (67, true)⟩, 2⟩, ⟨12, ⟨some 74, .pure (.mv 6), some (67, true)⟩, 1⟩], some ((mQ 75 203 [74] c203).g 67 true)⟩, ⟨[⟨some 72, .read (.ld1 71), some (67, true)⟩], [], some ((mQ 76 202 [73, 75] c202).g 67 true)⟩, ⟨[⟨some 72, .read (.ld1 71), some (67, true)⟩], [⟨15, ⟨some 77, .pure (.bin .eql 72 76), some (67, true)⟩, 3⟩, dP 16 78 (.pick 67 77 (.c (.b false))) 3, dP 17 7 (.mv 78) 3], none⟩]) .skip))))) (.seq (.seq (.reg [mM 79 7, mU 80 (.un .not 79)]) (.cond 80 (.seq (.reg [mM 81 0, mU 82 (.nilCheck 81), mF 15 83 82, mF 5 84 83, mQ 85 98 [84] c98, mM 4 85]) .ret) .skip)) (.seq (.reg [mM 86 0, mM 87 1, mQ 88 204 [86, 87] c204]) (.seq (.reg [mM 89 0, mM 90 1, mQ 91 201 [89, 90] c201, mM 4 91]) .ret))))))
def r121 : List ARes := [.t 4]
theorem k121 (c98 : T 98) (c120 : T 120) (c201 : T 201) (c202 : T 202) (c203 : T 203) (c204 : T 204) : compFn Tryz.prog 121 = some ⟨92, (s121 c98 c120 c201 c202 c203 c204).er, r121⟩ := by kernel_rfl
abbrev q121 (O : Ops Tryz.prog) (c98 : T 98) (c120 : T 120) (c201 : T 201) (c202 : T 202) (c203 : T 203) (c204 : T 204) := curF 2 (sfn O (s121 c98 c120 c201 c202 c203 c204) r121)
def g121 : { g // g = q121 } := by
  have h : q121 = q121 := rfl
  conv at h => rhs; reduce
  exact ⟨_, h.symm⟩
def C121 : T 121 := mkRun 2 (k121 C98 C120 C201 C202 C203 C204) (by decide) (g121.1 (theOps Tryz.prog) C98 C120 C201 C202 C203 C204) (by rw [g121.2])
def s122 (c98 : T 98) (c119 : T 119) (c120 : T 120) (c201 : T 201) (c202 : T 202) : S := .seq (.reg [mK 4 (.b false)]) (.join [0, 1, 5, 6] [] (.draw 0 [⟨[], [dP 0 8 (.mv 1) 0, dP 1 9 (.nilCheck 8) 0, dP 2 10 (.fieldAddr 42 9) 0, dR 3 11 (.ld1 10) 0, dP 4 12 (.mv 1) 0, dP 5 13 (.nilCheck 12) 0, dP 6 14 (.fieldAddr 40 13) 0, dR 7 15 (.ld1 14) 0, dP 8 16 (.nilCheck 11) 0, dP 9 17 (.fieldAddr 8 16) 0, dP 10 18 (.idxAddrArr 2 1 17 15) 0, dR 11 19 (.ld1 18) 0, dP 12 20 (.mv 1) 0, dP 13 21 (.nilCheck 20) 0, dP 14 22 (.fieldAddr 42 21) 0, dR 15 23 (.ld1 22) 0, dP 16 24 (.mv 1) 0, dP 17 25 (.nilCheck 24) 0, dP 18 26 (.fieldAddr 40 25) 0, dR 19 27 (.ld1 26) 0, dP 20 28 (.bin .sub (.c 1) 27) 0, dP 21 29 (.nilCheck 23) 0, dP 22 30 (.fieldAddr 8 29) 0, dP 23 31 (.idxAddrArr 2 1 30 28) 0, dR 24 32 (.ld1 31) 0, dP 25 5 (.mv 19) 0, dP 26 6 (.mv 32) 0], none⟩]) (.seq (.reg [mM 33 1, mQ 34 120 [33, .c 16] c120, mM 7 34]) (.join [0] [] (.block 0 (.join [0, 1, 5, 6, 35] [] (.reg [mM 36 1, mU 37 (.nilCheck 36), mF 33 38 37, mL 39 38, mB .neq 40 39 (.c (.s [])), mM 41 40, (mM 42 1).g 41 false, (mQ 43 120 [42, .c 1] c120).g 41 false, mU 44 (.pick 41 (.c (.b true)) 43), mM 45 44, (mM 46 7).g 45 false, (mM 47 1).g 45 false, (mU 48 (.nilCheck 47)).g 45 false, (mF 40 49 48).g 45 false, (mL 50 49).g 45 false, (mB .eql 51 50 (.c 1)).g 45 false, (mU 52 (.eqB true 46 51)).g 45 false, mU 53 (.pick 45 (.c (.b true)) 52), mM 35 53]) (.cond 35 .skip (.join [0, 1, 5, 54] [] (.draw 0 [⟨[], [dP 0 55 (.mv 5) 0, dR 1 56 (.peq false 55 (.c (.p none))) 0, dP 2 57 (.mv 56) 0, ⟨3, ⟨some 58, .pure (.mv 6), some (57, true)⟩, 0⟩, ⟨4, ⟨some 59, .read (.peq true 58 (.c (.p none))), some (57, true)⟩, 0⟩, dP 5 60 (.pick 57 59 (.c (.b false))) 0, dP 6 61 (.mv 60) 0, ⟨7, ⟨some 62, .pure (.mv 1), some (61, true)⟩, 1⟩, ⟨8, ⟨some 63, .pure (.nilCheck 62), some (61, true)⟩, 1⟩, ⟨9, ⟨some 64, .pure (.fieldAddr 26 63), some (61, true)⟩, 1⟩, ⟨10, ⟨some 65, .pure (.fieldAddr 3 64), some (61, true)⟩, 1⟩, ⟨11, ⟨some 66, .read (.ld1 65), some (61, true)⟩, 1⟩, ⟨12, ⟨some 67, .pure (.mv 6), some (61, true)⟩, 0⟩], some ((mQ 68 202 [67, .c 0] c202).g 61 true)⟩, ⟨[⟨some 66, .read (.ld1 65), some (61, true)⟩], [⟨14, ⟨some 69, .pure (.bin .eql 66 68), some (61, true)⟩, 1⟩, dP 15 70 (.pick 61 69 (.c (.b false))) 1, dP 16 54 (.mv 70) 1], none⟩]) (.cond 54 (.seq (.reg [mM 71 0, mM 72 1, mQ 73 119 [71, 72] c119, mM 4 73]) .ret) (.seq (.draw 0 [⟨[], [dP 0 75 (.mv 5) 0, dR 1 76 (.peq true 75 (.c (.p none))) 0, dP 2 77 (.mv 76) 0, ⟨3, ⟨some 78, .pure (.mv 1), some (77, true)⟩, 1⟩, ⟨4, ⟨some 79, .pure (.nilCheck 78), some (77, true)⟩, 1⟩, ⟨5, ⟨some 80, .pure (.fieldAddr 26 79), some (77, true)⟩, 1⟩, ⟨6, ⟨some 81, .pure (.fieldAddr 2 80), some (77, true)⟩, 1⟩, ⟨7, ⟨some 82, .read (.ld1 81), some (77, true)⟩, 1⟩, ⟨8, ⟨some 83, .pure (.bin .add 82 (.c (.i .u32 1))), some (77, true)⟩, 1⟩, ⟨9, ⟨some 84, .pure (.mv 5), some (77, true)⟩, 0⟩], some ((mQ 85 202 [84, .c 0] c202).g 77 true)⟩, ⟨[⟨some 82, .read (.ld1 81), some (77, true)⟩], [⟨11, ⟨some 86, .pure (.bin .eql 83 85), some (77, true)⟩, 1⟩, dP 12 87 (.pick 77 86 (.c (.b false))) 1, dP 13 74 (.mv 87) 1], none⟩]) (.cond 74 (.seq (.reg [mM 88 0, mM 89 1, mQ 90 201 [88, 89] c201, mM 4 90]) .ret) .skip))))))) (.seq (.reg [mM 91 0, mU 92 (.nilCheck 91), mF 15 93 92, mF 5 94 93, mQ 95 98 [94] c98, mM 4 95]) .ret))))
def r122 : List ARes := [.t 4]
theorem k122 (c98 : T 98) (c119 : T 119) (c120 : T 120) (c201 : T 201) (c202 : T 202) : compFn Tryz.prog 122 = some ⟨96, (s122 c98 c119 c120 c201 c202).er, r122⟩ := by kernel_rfl
abbrev q122 (O : Ops Tryz.prog) (c98 : T 98) (c119 : T 119) (c120 : T 120) (c201 : T 201) (c202 : T 202) := curF 2 (sfn O (s122 c98 c119 c120 c201 c202) r122)
def g122 : { g // g = q122 } := by
  have h : q122 = q122 := rfl
  conv at h => rhs; reduce
  exact ⟨_, h.symm⟩
def C122 : T 122 := mkRun 2 (k122 C98 C119 C120 C201 C202) (by decide) (g122.1 (theOps Tryz.prog) C98 C119 C120 C201 C202) (by rw [g122.2])
def s291 : S := .seq (.reg [mK 2 0]) (.seq (.reg [mM 3 0, mU 4 (.conv .i64 3), mM 2 4]) .ret)
def r291 : List ARes := [.t 2]
theorem k291 : compFn Tryz.prog 291 = some ⟨5, (s291).er, r291⟩ := by kernel_rfl
abbrev q291 (O : Ops Tryz.prog) := curF 1 (sfn O (s291) r291)
def g291 : { g // g = q291 } := by
  have h : q291 = q291 := rfl
  conv at h => rhs; reduce
  exact ⟨_, h.symm⟩
def C291 : T 291 := mkRun 1 (k291) (by decide) (g291.1 (theOps Tryz.prog)) (by rw [g291.2])
def s292 : S := .seq (.reg [mK 2 (.i .i32 0)]) (.seq (.reg [mM 3 0, mU 4 (.conv .i32 3), mM 2 4]) .ret)
def r292 : List ARes := [.t 2]
theorem k292 : compFn Tryz.prog 292 = some ⟨5, (s292).er, r292⟩ := by kernel_rfl
abbrev q292 (O : Ops Tryz.prog) := curF 1 (sfn O (s292) r292)
def g292 : { g // g = q292 } := by
  have h : q292 = q292 := rfl
  conv at h => rhs; reduce
  exact ⟨_, h.symm⟩
def C292 : T 292 := mkRun 1 (k292) (by decide) (g292.1 (theOps Tryz.prog)) (by rw [g292.2])
def s224 (c291 : T 291) (c292 : T 292) : S := .seq (.reg [mK 4 0]) (.seq (.reg [mM 5 0, mM 6 1, mB .sub 7 5 6, mQ 8 292 [7] c292, mQ 9 291 [8] c291, mM 4 9]) .ret)
def r224 : List ARes := [.t 4]
theorem k224 (c291 : T 291) (c292 : T 292) : compFn Tryz.prog 224 = some ⟨10, (s224 c291 c292).er, r224⟩ := by kernel_rfl
abbrev q224 (O : Ops Tryz.prog) (c291 : T 291) (c292 : T 292) := curF 2 (sfn O (s224 c291 c292) r224)
def g224 : { g // g = q224 } := by
  have h : q224 = q224 := rfl
  conv at h => rhs; reduce
  exact ⟨_, h.symm⟩
def C224 : T 224 := mkRun 2 (k224 C291 C292) (by decide) (g224.1 (theOps Tryz.prog) C291 C292) (by rw [g224.2])
def s148 (c224 : T 224) (c225 : T 225) : S := .seq (.reg [mK 6 0]) (.seq (.reg [mM 7 2, mU 8 (.mxmn false [7, .c 1099511627776]), mU 9 (.mxmn true [.c 0, 8]), mM 2 9]) (.seq (.reg [mM 10 2, mM 11 1, mM 12 0, mM 13 2, mQ 14 225 [12, 13] c225, mQ 15 224 [11, 14] c224, mB .add 16 10 15, mM 6 16]) .ret))
def r148 : List ARes := [.t 6]
theorem k148 (c224 : T 224) (c225 : T 225) : compFn Tryz.prog 148 = some ⟨17, (s148 c224 c225).er, r148⟩ := by kernel_rfl
abbrev q148 (O : Ops Tryz.prog) (c224 : T 224) (c225 : T 225) := curF 3 (sfn O (s148 c224 c225) r148)
def g148 : { g // g = q148 } := by
  have h : q148 = q148 := rfl
  conv at h => rhs; reduce
  exact ⟨_, h.symm⟩
def C148 : T 148 := mkRun 3 (k148 C224 C225) (by decide) (g148.1 (theOps Tryz.prog) C224 C225) (by rw [g148.2])
def s274 : S := .seq (.reg [mK 4 (.b false)]) (.seq (.seq (.reg [mM 6 0, mU 7 (.nilCheck 6), mF 4 8 7, mL 9 8, mY 10 (.rangeM 9)]) (.block 0 (.loop [] [1, 10] (.seq (.reg [mY 11 (.nextM 10), mU 12 (.extract 0 11)]) (.seq (.cond 12 .skip (.exit 0)) (.block 1 (.seq (.reg [mY 13 (.entryM 10), mU 14 (.extract 0 13), mM 5 14]) (.seq (.reg [mM 15 5, mM 16 1, mB .geq 17 15 16]) (.cond 17 (.seq (.reg [mK 4 (.b true)]) .ret) .skip))))))))) (.seq (.reg [mK 4 (.b false)]) .ret))
def r274 : List ARes := [.t 4]
theorem k274 : compFn Tryz.prog 274 = some ⟨18, (s274).er, r274⟩ := by kernel_rfl
abbrev q274 (O : Ops Tryz.prog) := curF 2 (sfn O (s274) r274)
def g274 : { g // g = q274 } := by
  have h : q274 = q274 := rfl
  conv at h => rhs; reduce
  exact ⟨_, h.symm⟩
def C274 : T 274 := mkRun 2 (k274) (by decide) (g274.1 (theOps Tryz.prog)) (by rw [g274.2])
def s275 : S := .seq (.reg [mK 2 (.s [])]) (.seq (.reg [mK 3 (.sl 0 none 0 0)]) (.join [0, 3] [] (.block 0 (.loop [3] [0] (.block 1 (.join [0, 3, 4, 5] [] (.draw 0 [⟨[], [dP 0 7 (.mv 0) 0, dP 1 8 (.nilCheck 7) 0, dP 2 9 (.fieldAddr 4 8) 0, dR 3 10 (.ld1 9) 0, dP 4 11 (.mv 0) 0, dP 5 12 (.nilCheck 11) 0, dP 6 13 (.fieldAddr 3 12) 0, dR 7 14 (.ld1 13) 0, dR 8 15 (.lookup (.one .i) (.i .u8 0) true 10 14) 0, dP 9 6 (.mv 15) 0, dP 10 16 (.extract 0 6) 0, dP 11 17 (.extract 1 6) 0, dP 12 4 (.mv 16) 0, dP 13 5 (.mv 17) 0], none⟩]) (.join [0, 3, 4] [] (.seq (.draw 0 [⟨[], [dP 0 18 (.mv 5) 0, dP 1 19 (.un .not 18) 0, dP 2 20 (.mv 19) 0, ⟨3, ⟨some 21, .pure (.mv 0), some (20, false)⟩, 0⟩, ⟨4, ⟨some 22, .pure (.nilCheck 21), some (20, false)⟩, 0⟩, ⟨5, ⟨some 23, .pure (.fieldAddr 3 22), some (20, false)⟩, 0⟩, ⟨6, ⟨some 24, .read (.ld1 23), some (20, false)⟩, 0⟩, ⟨7, ⟨some 25, .pure (.mv 0), some (20, false)⟩, 0⟩, ⟨8, ⟨some 26, .pure (.nilCheck 25), some (20, false)⟩, 0⟩, ⟨9, ⟨some 27, .pure (.fieldAddr 6 26), some (20, false)⟩, 0⟩, ⟨10, ⟨some 28, .read (.ld1 27), some (20, false)⟩, 0⟩, ⟨11, ⟨some 29, .pure (.bin .eql 24 28), some (20, false)⟩, 0⟩, dP 12 30 (.pick 20 (.c (.b true)) 29) 0], none⟩]) (.cond 30 (.exit 0) .skip)) (.seq (.draw 0 [⟨[], [dP 0 31 (.mv 0) 0, dP 1 32 (.nilCheck 31) 0, dP 2 33 (.fieldAddr 4 32) 0, dR 3 34 (.ld1 33) 0, dP 4 35 (.mv 0) 0, dP 5 36 (.nilCheck 35) 0, dP 6 37 (.fieldAddr 3 36) 0, dR 7 38 (.ld1 37) 0], some (mZ (.del (.one .i) 34 38))⟩, ⟨[], [], none⟩]) (.seq (.reg [mM 39 3, mM 40 4, mN 41 (.bslice 1 1 [.i .u8 0] [(0, (1, 40))]), mY 42 (.append 1 1 39 41), mM 3 42]) (.reg [mM 43 0, mU 44 (.nilCheck 43), mF 3 45 44, mL 46 45, mB .add 47 46 (.c 1), mU 48 (.nilCheck 43), mF 3 49 48, mZ (.st 1 49 47)])))))))) (.join [0, 3] [] (.draw 0 [⟨[], [dP 0 50 (.mv 0) 0, dP 1 51 (.nilCheck 50) 0, dP 2 52 (.fieldAddr 5 51) 0, dR 3 53 (.ld1 52) 0, dP 4 54 (.mv 3) 0, dR 5 55 (.b2s 54) 0, dP 6 56 (.bin .add 53 55) 0, dP 7 57 (.nilCheck 50) 0, dP 8 58 (.fieldAddr 5 57) 0], some (mZ (.st 1 58 56))⟩, ⟨[], [], none⟩]) (.seq (.draw 0 [⟨[], [dP 0 59 (.mv 0) 0, dP 1 60 (.mv 0) 0, dP 2 61 (.nilCheck 60) 0, dP 3 62 (.fieldAddr 5 61) 0, dR 4 63 (.ld1 62) 0, dP 5 64 (.mv 0) 0, dP 6 65 (.nilCheck 64) 0, dP 7 66 (.fieldAddr 5 65) 0, dR 8 67 (.ld1 66) 0, dP 9 68 (.lenS 67) 0, dP 10 69 (.mv 0) 0, dP 11 70 (.nilCheck 69) 0, dP 12 71 (.fieldAddr 2 70) 0, dR 13 72 (.ld1 71) 0, dP 14 73 (.bin .sub 68 72) 0, dP 15 74 (.mxmn true [.c 0, 73]) 0, dP 16 75 (.slStr 63 (some 74) none) 0, dP 17 76 (.nilCheck 59) 0, dP 18 77 (.fieldAddr 5 76) 0], some (mZ (.st 1 77 75))⟩, ⟨[], [], none⟩]) (.seq (.reg [mM 78 3, mR 79 (.b2s 78), mM 2 79]) .ret)))))
def r275 : List ARes := [.t 2]
theorem k275 : compFn Tryz.prog 275 = some ⟨80, (s275).er, r275⟩ := by kernel_rfl
abbrev q275 (O : Ops Tryz.prog) := curF 1 (sfn O (s275) r275)
def g275 : { g // g = q275 } := by
  have h : q275 = q275 := rfl
  conv at h => rhs; reduce
  exact ⟨_, h.symm⟩
def C275 : T 275 := mkRun 1 (k275) (by decide) (g275.1 (theOps Tryz.prog)) (by rw [g275.2])
def s205 (c148 : T 148) (c274 : T 274) (c275 : T 275) : S := .seq (.reg [mN 8 (.newz [0, 0, .s [], .b false])]) (.join [0, 2, 3, 8, 9] [] (.draw 0 [⟨[], [dP 0 18 (.mv 0) 0, dP 1 19 (.nilCheck 18) 0, dP 2 20 (.fieldAddr 0 19) 0, dR 3 21 (.ld1 20) 0, dP 4 22 (.mv 1) 0, dP 5 23 (.mv 0) 0, dP 6 24 (.nilCheck 23) 0, dP 7 25 (.fieldAddr 3 24) 0, dR 8 26 (.ld1 25) 0], some (mQ 27 148 [21, 22, 26] c148)⟩, ⟨[], [dP 10 9 (.mv 27) 1], none⟩]) (.join [0, 2, 3, 8, 9, 10] [] (.reg [mM 28 9, mM 29 2, mU 30 (.lenS 29), mB .add 31 28 30, mM 10 31]) (.join [0, 2, 3, 8, 9, 10] [] (.seq (.reg [mM 32 2, mB .eql 33 32 (.c (.s [])), mM 34 33, (mM 35 3).g 34 true, (mU 36 (.un .not 35)).g 34 true, mU 37 (.pick 34 36 (.c (.b false)))]) (.cond 37 (.seq (.reg [mU 38 (.build [0, 0, .s [], .b false] [(0, (1, .c 0))]), mZ (.st 4 8 38)]) .ret) .skip)) (.join [0, 2, 3, 8, 9, 10] [] (.join [0, 2, 3, 8, 9, 10, 43] [] (.reg [mM 39 0, mU 40 (.nilCheck 39), mF 6 41 40, mL 42 41, mB .geq 43 42 (.c 0)]) (.cond 43 (.join [0, 2, 3, 8, 9, 10] [] (.reg [mM 44 3, mM 45 44, (mM 46 10).g 45 true, (mM 47 0).g 45 true, (mU 48 (.nilCheck 47)).g 45 true, (mF 6 49 48).g 45 true, (mL 50 49).g 45 true, (mB .eql 51 46 50).g 45 true, mU 52 (.pick 45 51 (.c (.b false))), mM 3 52]) (.seq (.reg [mM 53 10, mM 54 0, mU 55 (.nilCheck 54), mF 6 56 55, mL 57 56, mB .gtr 58 53 57]) (.cond 58 (.seq (.reg [mM 59 0, mU 60 (.nilCheck 59), mF 6 61 60, mL 62 61, mM 63 9, mU 64 (.mxmn true [62, 63]), mM 10 64]) (.reg [mM 65 2, mM 66 10, mM 67 9, mB .sub 68 66 67, mU 69 (.slStr 65 none (some 68)), mM 2 69])) .skip))) .skip)) (.join [0, 2, 3, 8, 9, 10] [] (.seq (.draw 0 [⟨[], [dP 0 70 (.mv 10) 0, dP 1 71 (.mv 0) 0, dP 2 72 (.nilCheck 71) 0, dP 3 73 (.fieldAddr 3 72) 0, dR 4 74 (.ld1 73) 0, dP 5 75 (.mv 0) 0, dP 6 76 (.nilCheck 75) 0, dP 7 77 (.fieldAddr 1 76) 0, dR 8 78 (.ld1 77) 0, dP 9 79 (.bin .add 74 78) 0, dP 10 80 (.bin .gtr 70 79) 0], none⟩]) (.cond 80 (.seq (.reg [mU 81 (.build [0, 0, .s [], .b false] [(0, (1, .c 5))]), mZ (.st 4 8 81)]) .ret) .skip)) (.join [0, 2, 3, 8, 9, 10] [] (.seq (.reg [mM 82 3, mM 83 82, (mM 84 0).g 83 true, (mU 85 (.nilCheck 84)).g 83 true, (mF 6 86 85).g 83 true, (mL 87 86).g 83 true, (mB .lss 88 87 (.c 0)).g 83 true, mU 89 (.pick 83 88 (.c (.b false))), mM 90 89, (mM 91 10).g 90 true, (mM 92 0).g 90 true, (mU 93 (.nilCheck 92)).g 90 true, (mF 3 94 93).g 90 true, (mL 95 94).g 90 true, (mB .geq 96 91 95).g 90 true, mU 97 (.pick 90 96 (.c (.b false))), mM 98 97, (mM 99 0).g 98 true, (mM 100 10).g 98 true, (mQ 101 274 [99, 100] c274).g 98 true, (mU 102 (.un .not 101)).g 98 true, mU 103 (.pick 98 102 (.c (.b false)))]) (.cond 103 (.reg [mM 104 0, mM 105 10, mU 106 (.nilCheck 104), mF 6 107 106, mZ (.st 1 107 105)]) .skip)) (.join [0, 3, 8, 9, 10] [] (.seq (.reg [mM 108 2, mU 109 (.lenS 108), mK 110 0]) (.block 0 (.loop [110] [0, 2, 3, 8, 9, 10, 109] (.seq (.reg [mB .lss 111 110 109]) (.seq (.cond 111 .skip (.exit 0)) (.join [0, 2, 3, 8, 9, 10, 109, 110] [] (.block 1 (.seq (.reg [mM 112 110, mM 11 112]) (.join [0, 2, 3, 8, 9, 10, 11, 13, 109, 110] [] (.reg [mM 114 0, mU 115 (.nilCheck 114), mF 4 116 115, mL 117 116, mM 118 9, mM 119 11, mB .add 120 118 119, mR 121 (.lookup (.one .i) (.i .u8 0) true 117 120), mM 113 121, mU 122 (.extract 0 113), mU 123 (.extract 1 113), mM 12 122, mM 13 123]) (.join [0, 2, 3, 8, 9, 10, 11, 109, 110, 135] [] (.reg [mM 124 13, mU 125 (.un .not 124), mM 126 125, (mM 127 9).g 126 true, (mM 128 11).g 126 true, (mB .add 129 127 128).g 126 true, (mM 130 0).g 126 true, (mU 131 (.nilCheck 130)).g 126 true, (mF 3 132 131).g 126 true, (mL 133 132).g 126 true, (mB .geq 134 129 133).g 126 true, mU 135 (.pick 126 134 (.c (.b false)))]) (.cond 135 (.draw 0 [⟨[], [dP 0 136 (.mv 0) 0, dP 1 137 (.nilCheck 136) 0, dP 2 138 (.fieldAddr 4 137) 0, dR 3 139 (.ld1 138) 0, dP 4 140 (.mv 9) 0, dP 5 141 (.mv 11) 0, dP 6 142 (.bin .add 140 141) 0, dP 7 143 (.mv 2) 0, dP 8 144 (.mv 11) 0, dP 9 145 (.idxStr 143 144) 0], some (mZ (.mapUpd (.one .i) 139 142 145))⟩, ⟨[], [], none⟩]) .skip))))) (.reg [mB .add 146 110 (.c 1), mM 110 146]))))))) (.join [0, 3, 8, 9, 10, 14] [] (.reg [mM 147 0, mU 148 (.nilCheck 147), mF 3 149 148, mL 150 149, mM 14 150]) (.seq (.reg [mM 151 0, mQ 152 275 [151] c275, mM 15 152]) (.join [0, 3, 8, 9, 10, 14, 15, 16] [] (.draw 0 [⟨[], [dP 0 153 (.mv 0) 0, dP 1 154 (.nilCheck 153) 0, dP 2 155 (.fieldAddr 3 154) 0, dR 3 156 (.ld1 155) 0, dP 4 157 (.mv 0) 0, dP 5 158 (.nilCheck 157) 0, dP 6 159 (.fieldAddr 6 158) 0, dR 7 160 (.ld1 159) 0, dP 8 161 (.bin .eql 156 160) 0, dP 9 162 (.mv 161) 0, ⟨10, ⟨some 163, .pure (.mv 0), some (162, true)⟩, 0⟩, ⟨11, ⟨some 164, .pure (.nilCheck 163), some (162, true)⟩, 0⟩, ⟨12, ⟨some 165, .pure (.fieldAddr 7 164), some (162, true)⟩, 0⟩, ⟨13, ⟨some 166, .read (.ld1 165), some (162, true)⟩, 0⟩, ⟨14, ⟨some 167, .pure (.un .not 166), some (162, true)⟩, 0⟩, dP 15 168 (.pick 162 167 (.c (.b false))) 0, dP 16 16 (.mv 168) 0], none⟩]) (.join [0, 3, 8, 9, 10, 14, 15, 16] [] (.reg [mM 169 0, mM 170 0, mU 171 (.nilCheck 170), mF 7 172 171, mL 173 172, mM 174 173, (mM 175 16).g 174 false, mU 176 (.pick 174 (.c (.b true)) 175), mU 177 (.nilCheck 169), mF 7 178 177, mZ (.st 1 178 176)]) (.seq (.block 2 (.join [0, 3, 8, 9, 10, 14, 15, 16, 179] [] (.reg [mM 180 15, mB .neq 181 180 (.c (.s [])), mM 182 181, (mM 183 16).g 182 false, mU 184 (.pick 182 (.c (.b true)) 183), mM 179 184]) (.cond 179 (.seq (.reg [mM 185 14, mM 186 15, mM 187 16, mU 188 (.build [0, 0, .s [], .b false] [(0, (1, .c 1)), (1, (1, 185)), (2, (1, 186)), (3, (1, 187))]), mZ (.st 4 8 188)]) .ret) (.join [0, 3, 8, 9, 10, 189] [] (.reg [mM 190 10, mM 191 0, mU 192 (.nilCheck 191), mF 3 193 192, mL 194 193, mB .gtr 195 190 194, mM 189 195]) (.cond 189 (.seq (.reg [mU 196 (.build [0, 0, .s [], .b false] [(0, (1, .c 4))]), mZ (.st 4 8 196)]) .ret) (.join [0, 3, 8, 9, 10, 197] [] (.draw 0 [⟨[], [dP 0 198 (.mv 9) 0, dP 1 199 (.bin .geq 198 (.c 0)) 0, dP 2 200 (.mv 199) 0, ⟨3, ⟨some 201, .pure (.mv 9), some (200, true)⟩, 0⟩, ⟨4, ⟨some 202, .pure (.mv 0), some (200, true)⟩, 0⟩, ⟨5, ⟨some 203, .pure (.nilCheck 202), some (200, true)⟩, 0⟩, ⟨6, ⟨some 204, .pure (.fieldAddr 3 203), some (200, true)⟩, 0⟩, ⟨7, ⟨some 205, .read (.ld1 204), some (200, true)⟩, 0⟩, ⟨8, ⟨some 206, .pure (.mv 0), some (200, true)⟩, 0⟩, ⟨9, ⟨some 207, .pure (.nilCheck 206), some (200, true)⟩, 0⟩, ⟨10, ⟨some 208, .pure (.fieldAddr 2 207), some (200, true)⟩, 0⟩, ⟨11, ⟨some 209, .read (.ld1 208), some (200, true)⟩, 0⟩, ⟨12, ⟨some 210, .pure (.bin .sub 205 209), some (200, true)⟩, 0⟩, ⟨13, ⟨some 211, .pure (.bin .geq 201 210), some (200, true)⟩, 0⟩, dP 14 212 (.pick 200 211 (.c (.b false))) 0, dP 15 197 (.mv 212) 0], none⟩]) (.cond 197 (.join [0, 3, 8, 9, 10, 17] [] (.draw 0 [⟨[], [dP 0 213 (.mv 0) 0, dP 1 214 (.nilCheck 213) 0, dP 2 215 (.fieldAddr 3 214) 0, dR 3 216 (.ld1 215) 0, dP 4 217 (.mv 0) 0, dP 5 218 (.nilCheck 217) 0, dP 6 219 (.fieldAddr 5 218) 0, dR 7 220 (.ld1 219) 0, dP 8 221 (.lenS 220) 0, dP 9 222 (.bin .sub 216 221) 0, dP 10 17 (.mv 222) 0], none⟩]) (.seq (.draw 0 [⟨[], [dP 0 223 (.mv 9) 0, dP 1 224 (.mv 0) 0, dP 2 225 (.nilCheck 224) 0, dP 3 226 (.fieldAddr 5 225) 0, dR 4 227 (.ld1 226) 0, dP 5 228 (.mv 9) 0, dP 6 229 (.mv 17) 0, dP 7 230 (.bin .sub 228 229) 0, dP 8 231 (.mv 10) 0, dP 9 232 (.mv 17) 0, dP 10 233 (.bin .sub 231 232) 0, dP 11 234 (.slStr 227 (some 230) (some 233)) 0, dP 12 235 (.mv 3) 0, dP 13 236 (.mv 235) 0, ⟨14, ⟨some 237, .pure (.mv 0), some (236, true)⟩, 0⟩, ⟨15, ⟨some 238, .pure (.nilCheck 237), some (236, true)⟩, 0⟩, ⟨16, ⟨some 239, .pure (.fieldAddr 7 238), some (236, true)⟩, 0⟩, ⟨17, ⟨some 240, .read (.ld1 239), some (236, true)⟩, 0⟩, dP 18 241 (.pick 236 240 (.c (.b false))) 0, dP 19 242 (.mv 241) 0, ⟨20, ⟨some 243, .pure (.mv 10), some (242, true)⟩, 0⟩, ⟨21, ⟨some 244, .pure (.mv 0), some (242, true)⟩, 0⟩, ⟨22, ⟨some 245, .pure (.nilCheck 244), some (242, true)⟩, 0⟩, ⟨23, ⟨some 246, .pure (.fieldAddr 6 245), some (242, true)⟩, 0⟩, ⟨24, ⟨some 247, .read (.ld1 246), some (242, true)⟩, 0⟩, ⟨25, ⟨some 248, .pure (.bin .eql 243 247), some (242, true)⟩, 0⟩, dP 26 249 (.pick 242 248 (.c (.b false))) 0, dP 27 250 (.build [0, 0, .s [], .b false] [(0, (1, .c 2)), (1, (1, 223)), (2, (1, 234)), (3, (1, 249))]) 0], some (mZ (.st 4 8 250))⟩, ⟨[], [], none⟩]) .ret)) .skip))))))) (.seq (.reg [mU 251 (.build [0, 0, .s [], .b false] [(0, (1, .c 3))]), mZ (.st 4 8 251)]) .ret)))))))))))))
def r205 : List ARes := [.c true 4 8]
theorem k205 (c148 : T 148) (c274 : T 274) (c275 : T 275) : compFn Tryz.prog 205 = some ⟨252, (s205 c148 c274 c275).er, r205⟩ := by kernel_rfl
abbrev q205 (O : Ops Tryz.prog) (c148 : T 148) (c274 : T 274) (c275 : T 275) := curF 4 (sfn O (s205 c148 c274 c275) r205)
def g205 : { g // g = q205 } := by
  have h : q205 = q205 := rfl
  conv at h => rhs; reduce
  exact ⟨_, h.symm⟩
def C205 : T 205 := mkRun 4 (k205 C148 C274 C275) (by decide) (g205.1 (theOps Tryz.prog) C148 C274 C275) (by rw [g205.2])
def s276 : S := .seq (.reg [mK 2 0]) (.seq (.reg [mM 3 0, mU 4 (.nilCheck 3), mF 3 5 4, mL 6 5, mM 2 6]) .ret)
def r276 : List ARes := [.t 2]
theorem k276 : compFn Tryz.prog 276 = some ⟨7, (s276).er, r276⟩ := by kernel_rfl
abbrev q276 (O : Ops Tryz.prog) := curF 1 (sfn O (s276) r276)
def g276 : { g // g = q276 } := by
  have h : q276 = q276 := rfl
  conv at h => rhs; reduce
  exact ⟨_, h.symm⟩
def C276 : T 276 := mkRun 1 (k276) (by decide) (g276.1 (theOps Tryz.prog)) (by rw [g276.2])
def s277 : S := .seq (.reg [mK 2 (.b false)]) (.seq (.reg [mM 3 0, mU 4 (.nilCheck 3), mF 7 5 4, mL 6 5, mM 2 6]) .ret)
def r277 : List ARes := [.t 2]
theorem k277 : compFn Tryz.prog 277 = some ⟨7, (s277).er, r277⟩ := by kernel_rfl
abbrev q277 (O : Ops Tryz.prog) := curF 1 (sfn O (s277) r277)
def g277 : { g // g = q277 } := by
  have h : q277 = q277 := rfl
  conv at h => rhs; reduce
  exact ⟨_, h.symm⟩
def C277 : T 277 := mkRun 1 (k277) (by decide) (g277.1 (theOps Tryz.prog)) (by rw [g277.2])
def s207 (c113 : T 113) (c114 : T 114) (c115 : T 115) (c200 : T 200) (c204 : T 204) (c206 : T 206) (c276 : T 276) (c277 : T 277) : S := .seq (.reg [mN 5 (.box 2), mK 6 (.b false)]) (.join [0, 1, 5, 7] [] (.reg [mM 12 1, mU 13 (.nilCheck 12), mF 42 14 13, mL 15 14, mM 7 15]) (.join [0, 1, 5, 7] [] (.join [0, 1, 5, 7, 18, 19, 20] [] (.reg [mF 2 16 5, mL 17 16, mN 18 (.s2b 17), mU 19 (.lenSl 18), mK 20 0]) (.block 0 (.loop [20] [0, 1, 5, 7, 18, 19] (.seq (.reg [mB .lss 21 20 19]) (.seq (.cond 21 .skip (.exit 0)) (.seq (.block 1 (.join [0, 1, 5, 7, 9, 18, 19, 20] [] (.reg [mU 22 (.idxAddrSl 1 18 20), mL 23 22, mM 9 23]) (.join [0, 1, 5, 7, 10, 11, 18, 19, 20] [] (.draw 0 [⟨[], [dP 0 25 (.mv 7) 0, dP 1 26 (.mv 1) 0, dP 2 27 (.nilCheck 26) 0, dP 3 28 (.fieldAddr 40 27) 0, dR 4 29 (.ld1 28) 0, dP 5 30 (.nilCheck 25) 0, dP 6 31 (.fieldAddr 10 30) 0, dP 7 32 (.idxAddrArr 2 1 31 29) 0, dR 8 33 (.ld1 32) 0, dP 9 34 (.mv 9) 0], some (mQ 35 115 [33, 34] c115)⟩, ⟨[], [dP 11 24 (.mv 35) 1, dP 12 36 (.extract 0 24) 1, dP 13 37 (.extract 1 24) 1, dP 14 10 (.mv 36) 1, dP 15 11 (.mv 37) 1], none⟩]) (.seq (.reg [mM 38 0, mM 39 1, mM 40 10, mQ 41 113 [38, 39, 40] c113]) (.seq (.reg [mM 42 11, mQ 43 114 [42, .c 1] c114]) (.cond 43 (.seq (.draw 0 [⟨[], [dP 0 44 (.mv 0) 1, dP 1 45 (.mv 1) 1, dP 2 46 (.mv 11) 1, dP 3 47 (.mv 7) 0, dP 4 48 (.mv 1) 0, dP 5 49 (.nilCheck 48) 0, dP 6 50 (.fieldAddr 40 49) 0, dR 7 51 (.ld1 50) 0, dP 8 52 (.nilCheck 47) 0, dP 9 53 (.fieldAddr 10 52) 0, dP 10 54 (.idxAddrArr 2 1 53 51) 0, dR 11 55 (.ld1 54) 0, dR 13 57 (.ldN 4 5) 1], some (mQ 56 276 [55] c276)⟩, ⟨[⟨some 57, .read (.ldN 4 5), none⟩], [], some (mQ 58 200 [44, 45, 46, 56, 57] c200)⟩, ⟨[], [], none⟩]) (.seq (.reg [mK 6 (.b false)]) .ret)) .skip)))))) (.reg [mB .add 59 20 (.c 1), mM 20 59]))))))) (.join [0, 1, 7] [] (.reg [mM 60 0, mM 61 1, mF 1 62 5, mL 63 62, mF 2 64 5, mL 65 64, mF 3 66 5, mL 67 66, mQ 68 206 [60, 61, 63, 65, 67] c206]) (.join [] [] (.seq (.reg [mM 69 7, mU 70 (.nilCheck 69), mF 8 71 70, mU 72 (.idxAddrArr 2 1 71 (.c 0)), mL 73 72, mQ 74 277 [73] c277, mM 75 74, (mM 76 7).g 75 true, (mU 77 (.nilCheck 76)).g 75 true, (mF 8 78 77).g 75 true, (mU 79 (.idxAddrArr 2 1 78 (.c 1))).g 75 true, (mL 80 79).g 75 true, (mQ 81 277 [80] c277).g 75 true, mU 82 (.pick 75 81 (.c (.b false)))]) (.cond 82 (.reg [mM 83 0, mM 84 1, mQ 85 204 [83, 84] c204]) .skip)) (.seq (.reg [mK 6 (.b false)]) .ret)))))
def r207 : List ARes := [.t 6]
theorem k207 (c113 : T 113) (c114 : T 114) (c115 : T 115) (c200 : T 200) (c204 : T 204) (c206 : T 206) (c276 : T 276) (c277 : T 277) : compFn Tryz.prog 207 = some ⟨86, (s207 c113 c114 c115 c200 c204 c206 c276 c277).er, r207⟩ := by kernel_rfl
abbrev q207 (O : Ops Tryz.prog) (c113 : T 113) (c114 : T 114) (c115 : T 115) (c200 : T 200) (c204 : T 204) (c206 : T 206) (c276 : T 276) (c277 : T 277) := curF 3 (sfn O (s207 c113 c114 c115 c200 c204 c206 c276 c277) r207)
def g207 : { g // g = q207 } := by
  have h : q207 = q207 := rfl
  conv at h => rhs; reduce
  exact ⟨_, h.symm⟩
def C207 : T 207 := mkRun 3 (k207 C113 C114 C115 C200 C204 C206 C276 C277) (by decide) (g207.1 (theOps Tryz.prog) C113 C114 C115 C200 C204 C206 C276 C277) (by rw [g207.2])
def s123 (c98 : T 98) (c120 : T 120) (c201 : T 201) (c205 : T 205) (c206 : T 206) (c207 : T 207) : S := .seq (.reg [mK 4 (.b false)]) (.join [0, 1, 5] [] (.reg [mM 7 1, mU 8 (.nilCheck 7), mF 42 9 8, mL 10 9, mM 5 10]) (.join [0, 1, 5] [] (.seq (.reg [mM 11 1, mQ 12 120 [11, .c 16] c120, mU 13 (.un .not 12), mM 14 13, (mM 15 5).g 14 false, (mU 16 (.nilCheck 15)).g 14 false, (mF 8 17 16).g 14 false, (mU 18 (.idxAddrArr 2 1 17 (.c 0))).g 14 false, (mL 19 18).g 14 false, (mR 20 (.peq false 19 (.c (.p none)))).g 14 false, mU 21 (.pick 14 (.c (.b true)) 20), mM 22 21, (mM 23 5).g 22 false, (mU 24 (.nilCheck 23)).g 22 false, (mF 8 25 24).g 22 false, (mU 26 (.idxAddrArr 2 1 25 (.c 1))).g 22 false, (mL 27 26).g 22 false, (mR 28 (.peq false 27 (.c (.p none)))).g 22 false, mU 29 (.pick 22 (.c (.b true)) 28)]) (.cond 29 (.seq (.reg [mM 30 0, mU 31 (.nilCheck 30), mF 15 32 31, mF 5 33 32, mQ 34 98 [33] c98, mM 4 34]) .ret) .skip)) (.join [0, 1, 6] [] (.draw 23 [⟨[], [dP 0 35 (.mv 5) 1, dP 1 36 (.mv 1) 1, dP 2 37 (.nilCheck 36) 1, dP 3 38 (.fieldAddr 40 37) 1, dR 4 39 (.ld1 38) 1, dP 5 40 (.nilCheck 35) 1, dP 6 41 (.fieldAddr 8 40) 1, dP 7 42 (.idxAddrArr 2 1 41 39) 1, dR 8 43 (.ld1 42) 1, dP 9 44 (.mv 1) 1, dP 10 45 (.nilCheck 44) 1, dP 11 46 (.fieldAddr 26 45) 1, dP 12 47 (.fieldAddr 2 46) 1, dR 13 48 (.ld1 47) 1, dP 14 49 (.mv 1) 1, dP 15 50 (.nilCheck 49) 1, dP 16 51 (.fieldAddr 33 50) 1, dR 17 52 (.ld1 51) 1, dP 18 53 (.mv 1) 0, ⟨21, ⟨some 6, .alloc (.newz [0, 0, .s [], .b false]), none⟩, 2⟩], some (mQ 54 120 [53, .c 1] c120)⟩, ⟨[⟨some 39, .read (.ld1 38), none⟩, ⟨some 43, .read (.ld1 42), none⟩, ⟨some 48, .read (.ld1 47), none⟩, ⟨some 52, .read (.ld1 51), none⟩], [], some (mQ 55 205 [43, 48, 52, 54] c205)⟩, ⟨[], [], some (mZ (.st 4 6 55))⟩, ⟨[], [], none⟩]) (.seq (.join [0, 1, 6, 57] [] (.reg [mF 0 56 6, mL 57 56]) (.block 0 (.seq (.reg [mB .eql 59 57 (.c 5), mM 58 59]) (.cond 58 (.seq (.reg [mM 60 0, mU 61 (.nilCheck 60), mF 15 62 61, mF 8 63 62, mQ 64 98 [63] c98, mM 4 64]) .ret) (.seq (.reg [mB .eql 66 57 (.c 4), mM 65 66]) (.cond 65 (.seq (.reg [mM 67 0, mU 68 (.nilCheck 67), mF 15 69 68, mF 7 70 69, mQ 71 98 [70] c98, mM 4 71]) .ret) (.seq (.reg [mB .eql 73 57 (.c 3), mM 72 73]) (.cond 72 (.seq (.reg [mM 74 0, mU 75 (.nilCheck 74), mF 15 76 75, mF 6 77 76, mQ 78 98 [77] c98, mM 4 78]) .ret) (.seq (.reg [mB .eql 80 57 (.c 2), mM 79 80]) (.cond 79 (.seq (.reg [mM 81 0, mU 82 (.nilCheck 81), mF 15 83 82, mF 6 84 83, mL 85 84, mB .add 86 85 (.c 1), mU 87 (.nilCheck 81), mF 15 88 87, mF 6 89 88, mZ (.st 1 89 86)]) (.seq (.reg [mM 90 0, mM 91 1, mF 1 92 6, mL 93 92, mF 2 94 6, mL 95 94, mF 3 96 6, mL 97 96, mQ 98 206 [90, 91, 93, 95, 97] c206, mM 4 98]) .ret)) (.seq (.reg [mB .eql 100 57 (.c 1), mM 99 100]) (.cond 99 (.seq (.reg [mM 101 0, mM 102 1, mR 103 (.ldN 4 6), mQ 104 207 [101, 102, 103] c207, mM 4 104]) .ret) .skip)))))))))))) (.seq (.reg [mM 105 0, mM 106 1, mQ 107 201 [105, 106] c201, mM 4 107]) .ret)))))
def r123 : List ARes := [.t 4]
theorem k123 (c98 : T 98) (c120 : T 120) (c201 : T 201) (c205 : T 205) (c206 : T 206) (c207 : T 207) : compFn Tryz.prog 123 = some ⟨108, (s123 c98 c120 c201 c205 c206 c207).er, r123⟩ := by kernel_rfl
abbrev q123 (O : Ops Tryz.prog) (c98 : T 98) (c120 : T 120) (c201 : T 201) (c205 : T 205) (c206 : T 206) (c207 : T 207) := curF 2 (sfn O (s123 c98 c120 c201 c205 c206 c207) r123)
def g123 : { g // g = q123 } := by
  have h : q123 = q123 := rfl
  conv at h => rhs; reduce
  exact ⟨_, h.symm⟩
def C123 : T 123 := mkRun 2 (k123 C98 C120 C201 C205 C206 C207) (by decide) (g123.1 (theOps Tryz.prog) C98 C120 C201 C205 C206 C207) (by rw [g123.2])
def s57 (c119 : T 119) (c120 : T 120) (c121 : T 121) (c122 : T 122) (c123 : T 123) : S := .seq (.reg [mK 4 (.b false)]) (.seq (.block 0 (.seq (.reg [mM 6 1, mU 7 (.nilCheck 6), mF 41 8 7, mL 9 8, mM 5 9]) (.cond 5 (.seq (.reg [mM 10 0, mM 11 1, mQ 12 119 [10, 11] c119, mM 4 12]) .ret) (.seq (.reg [mM 14 1, mQ 15 120 [14, .c 4] c120, mM 13 15]) (.cond 13 (.seq (.reg [mM 16 0, mM 17 1, mQ 18 121 [16, 17] c121, mM 4 18]) .ret) (.seq (.reg [mM 20 1, mQ 21 120 [20, .c 2] c120, mM 19 21]) (.cond 19 (.seq (.reg [mM 22 0, mM 23 1, mQ 24 122 [22, 23] c122, mM 4 24]) .ret) .skip))))))) (.seq (.reg [mM 25 0, mM 26 1, mQ 27 123 [25, 26] c123, mM 4 27]) .ret))
def r57 : List ARes := [.t 4]
theorem k57 (c119 : T 119) (c120 : T 120) (c121 : T 121) (c122 : T 122) (c123 : T 123) : compFn Tryz.prog 57 = some ⟨28, (s57 c119 c120 c121 c122 c123).er, r57⟩ := by kernel_rfl
abbrev q57 (O : Ops Tryz.prog) (c119 : T 119) (c120 : T 120) (c121 : T 121) (c122 : T 122) (c123 : T 123) := curF 2 (sfn O (s57 c119 c120 c121 c122 c123) r57)
def g57 : { g // g = q57 } := by
  have h : q57 = q57 := rfl
  conv at h => rhs; reduce
  exact ⟨_, h.symm⟩
def C57 : T 57 := mkRun 2 (k57 C119 C120 C121 C122 C123) (by decide) (g57.1 (theOps Tryz.prog) C119 C120 C121 C122 C123) (by rw [g57.2])
def A57 : U := ⟨57, C57⟩
def s21 (a48 : U) (a49 : U) (a50 : U) (a51 : U) (a52 : U) (a53 : U) (a54 : U) (a55 : U) (a56 : U) (a57 : U) : S := .seq (.reg [mN 6 (.newz [.sl 0 none 0 0, .sl 0 none 0 0, 0, 0])]) (.join [0, 1, 2, 6] [] (.reg [mM 10 0, mU 11 (.nilCheck 10), mF 15 12 11, mF 0 13 12, mL 14 13, mB .add 15 14 (.c 1), mU 16 (.nilCheck 10), mF 15 17 16, mF 0 18 17, mZ (.st 1 18 15)]) (.join [0, 6, 7] [] (.reg [mM 19 1, mM 20 2, mU 21 (.build [0, .s [], .i .u8 0, .i .u8 0, .i .u8 0, .i .u8 0, .i .u8 0, .i .u8 0, .i .u8 0, .i .u8 0, .i .u8 0, .i .u8 0, .i .u8 0, .i .u8 0, 0, 0, 0, .b false, .b false, 0, 0, 0, .i .u32 0, .i .u32 0, .s [], .s [], 0, 0, .i .u32 0, .i .u32 0, 0, 0, .s [], .s [], 0, .i .u32 0, .i .u32 0, 0, 0, 0, 0, .b false, .p none, .sl 0 none 0 0, .sl 0 none 0 0, 0, 0] [(0, (1, 19)), (1, (1, 20))]), mN 22 (.box 21), mM 7 22]) (.join [6, 7] [] (.seq (.reg [mM 23 0, mU 24 (.mkFunc 48 [23] []), mM 25 0, mU 26 (.mkFunc 49 [25] []), mM 27 0, mU 28 (.mkFunc 50 [27] []), mM 29 0, mU 30 (.mkFunc 51 [29] []), mM 31 0, mU 32 (.mkFunc 52 [31] []), mM 33 0, mU 34 (.mkFunc 53 [33] []), mM 35 0, mU 36 (.mkFunc 54 [35] []), mM 37 0, mU 38 (.mkFunc 55 [37] []), mM 39 0, mU 40 (.mkFunc 56 [39] []), mM 41 0, mU 42 (.mkFunc 57 [41] []), mN 43 (.bslice 1 10 [.nf, .nf, .nf, .nf, .nf, .nf, .nf, .nf, .nf, .nf] [(0, (1, 24)), (1, (1, 26)), (2, (1, 28)), (3, (1, 30)), (4, (1, 32)), (5, (1, 34)), (6, (1, 36)), (7, (1, 38)), (8, (1, 40)), (9, (1, 42))]), mU 44 (.lenSl 43), mK 45 0]) (.block 0 (.loop [45] [6, 7, 43, 44] (.seq (.reg [mB .lss 46 45 44]) (.seq (.cond 46 .skip (.exit 0)) (.seq (.block 1 (.seq (.reg [mU 47 (.idxAddrSl 1 43 45), mL 48 47, mM 9 48]) (.seq (.reg [mM 49 9, mM 50 7, mV 51 49 [50] [a48, a49, a50, a51, a52, a53, a54, a55, a56, a57] [], mU 52 (.un .not 51)]) (.cond 52 (.exit 0) .skip)))) (.reg [mB .add 53 45 (.c 1), mM 45 53]))))))) (.seq (.reg [mM 54 7, mU 55 (.nilCheck 54), mF 43 56 55, mR 57 (.ldN 4 56), mZ (.st 4 6 57)]) .ret))))
def r21 : List ARes := [.c true 4 6]
theorem k21 (a48 : U) (a49 : U) (a50 : U) (a51 : U) (a52 : U) (a53 : U) (a54 : U) (a55 : U) (a56 : U) (a57 : U) : compFn Tryz.prog 21 = some ⟨58, (s21 a48 a49 a50 a51 a52 a53 a54 a55 a56 a57).er, r21⟩ := by kernel_rfl
abbrev q21 (O : Ops Tryz.prog) (a48 : U) (a49 : U) (a50 : U) (a51 : U) (a52 : U) (a53 : U) (a54 : U) (a55 : U) (a56 : U) (a57 : U) := curF 3 (sfn O (s21 a48 a49 a50 a51 a52 a53 a54 a55 a56 a57) r21)
def g21 : { g // g = q21 } := by
  have h : q21 = q21 := rfl
  conv at h => rhs; reduce
  exact ⟨_, h.symm⟩
def C21 : T 21 := mkRun 3 (k21 A48 A49 A50 A51 A52 A53 A54 A55 A56 A57) (by decide) (g21.1 (theOps Tryz.prog) A48 A49 A50 A51 A52 A53 A54 A55 A56 A57) (by rw [g21.2])
def s217 : S := .seq (.reg [mK 2 0, mK 3 (.b false)]) (.seq (.seq (.reg [mM 6 0, mN 7 (.rangeS 6)]) (.block 0 (.loop [2] [0, 7] (.join [0, 2, 7, 8, 9] [] (.reg [mY 8 (.nextS 7), mU 9 (.extract 0 8)]) (.seq (.cond 9 .skip (.exit 0)) (.block 1 (.seq (.reg [mU 10 (.extract 2 8), mM 5 10]) (.seq (.seq (.reg [mM 11 5, mB .lss 12 11 (.c (.i .i32 48)), mM 13 12, (mM 14 5).g 13 false, (mB .gtr 15 14 (.c (.i .i32 57))).g 13 false, mU 16 (.pick 13 (.c (.b true)) 15), mM 17 16, (mM 18 0).g 17 false, (mU 19 (.lenS 18)).g 17 false, (mB .gtr 20 19 (.c 9)).g 17 false, mU 21 (.pick 17 (.c (.b true)) 20)]) (.cond 21 (.seq (.reg [mK 2 0, mK 3 (.b false)]) .ret) .skip)) (.reg [mM 22 2, mB .mul 23 22 (.c 10), mM 24 5, mB .sub 25 24 (.c (.i .i32 48)), mU 26 (.conv .i64 25), mB .add 27 23 26, mM 2 27]))))))))) (.seq (.reg [mM 28 2, mM 29 0, mB .neq 30 29 (.c (.s [])), mM 2 28, mM 3 30]) .ret))
def r217 : List ARes := [.t 2, .t 3]
theorem k217 : compFn Tryz.prog 217 = some ⟨31, (s217).er, r217⟩ := by kernel_rfl
abbrev q217 (O : Ops Tryz.prog) := curF 1 (sfn O (s217) r217)
def g217 : { g // g = q217 } := by
  have h : q217 = q217 := rfl
  conv at h => rhs; reduce
  exact ⟨_, h.symm⟩
def C217 : T 217 := mkRun 1 (k217) (by decide) (g217.1 (theOps Tryz.prog)) (by rw [g217.2])
def s282 (c217 : T 217) : S := .seq (.reg [mK 2 (.sl 0 none 0 0), mK 3 (.b false)]) (.seq (.reg [mK 4 (.sl 0 none 0 0)]) (.seq (.seq (.reg [mM 9 0, mU 10 (.lenSl 9), mK 11 0]) (.block 0 (.loop [4, 11] [9, 10] (.seq (.reg [mB .lss 12 11 10]) (.seq (.cond 12 .skip (.exit 0)) (.seq (.block 1 (.seq (.reg [mU 13 (.idxAddrSl 1 9 11), mL 14 13, mM 6 14]) (.seq (.reg [mM 16 6, mQ 17 217 [16] c217, mM 15 17, mU 18 (.extract 0 15), mU 19 (.extract 1 15), mM 7 18, mM 8 19]) (.seq (.seq (.reg [mM 20 8, mU 21 (.un .not 20)]) (.cond 21 (.seq (.reg [mK 2 (.sl 0 none 0 0), mK 3 (.b false)]) .ret) .skip)) (.reg [mM 22 4, mM 23 7, mN 24 (.bslice 1 1 [0] [(0, (1, 23))]), mY 25 (.append 1 8 22 24), mM 4 25]))))) (.reg [mB .add 26 11 (.c 1), mM 11 26]))))))) (.seq (.reg [mM 27 4, mM 2 27, mK 3 (.b true)]) .ret)))
def r282 : List ARes := [.t 2, .t 3]
theorem k282 (c217 : T 217) : compFn Tryz.prog 282 = some ⟨28, (s282 c217).er, r282⟩ := by kernel_rfl
abbrev q282 (O : Ops Tryz.prog) (c217 : T 217) := curF 1 (sfn O (s282 c217) r282)
def g282 : { g // g = q282 } := by
  have h : q282 = q282 := rfl
  conv at h => rhs; reduce
  exact ⟨_, h.symm⟩
def C282 : T 282 := mkRun 1 (k282 C217) (by decide) (g282.1 (theOps Tryz.prog) C217) (by rw [g282.2])
def s334 : S := .seq (.reg [mN 0 (.newz [0, 0, 0, 0, 0])]) (.seq (.reg [mU 1 (.build [0, 0, 0, 0, 0] [(0, (1, .c 2)), (1, (1, .c 16)), (2, (1, .c 1)), (3, (1, .c 4)), (4, (1, .c 8))]), mZ (.st 5 0 1)]) .ret)
def r334 : List ARes := [.c true 5 0]
theorem k334 : compFn Tryz.prog 334 = some ⟨2, (s334).er, r334⟩ := by kernel_rfl
abbrev q334 (O : Ops Tryz.prog) := curF 0 (sfn O (s334) r334)
def g334 : { g // g = q334 } := by
  have h : q334 = q334 := rfl
  conv at h => rhs; reduce
  exact ⟨_, h.symm⟩
def C334 : T 334 := mkRun 0 (k334) (by decide) (g334.1 (theOps Tryz.prog)) (by rw [g334.2])
def s283 (c333 : T 333) (c334 : T 334) : S := .seq (.reg [mK 2 0, mK 3 (.b false)]) (.seq (.reg [mK 4 0]) (.seq (.seq (.reg [mM 8 0, mB .eql 9 8 (.c (.s [45]))]) (.cond 9 (.seq (.reg [mK 2 0, mK 3 (.b true)]) .ret) .skip)) (.seq (.seq (.reg [mM 10 0, mN 11 (.rangeS 10)]) (.block 0 (.loop [4] [0, 11] (.join [0, 4, 11, 12, 13] [] (.reg [mY 12 (.nextS 11), mU 13 (.extract 0 12)]) (.seq (.cond 13 .skip (.exit 0)) (.block 1 (.seq (.reg [mU 14 (.extract 2 12), mM 6 14]) (.seq (.reg [mM 15 6, mQ 16 333 [.c (.s [83, 65, 70, 82, 80]), 15] c333, mM 7 16]) (.seq (.seq (.reg [mM 17 7, mB .lss 18 17 (.c 0), mM 19 18, (mM 20 4).g 19 false, (mQ 21 334 [] c334).g 19 false, (mM 22 7).g 19 false, (mU 23 (.idxArr false 5 1 21 22)).g 19 false, (mB .and 24 20 23).g 19 false, (mB .neq 25 24 (.c 0)).g 19 false, mU 26 (.pick 19 (.c (.b true)) 25)]) (.cond 26 (.seq (.reg [mK 2 0, mK 3 (.b false)]) .ret) .skip)) (.reg [mM 27 4, mQ 28 334 [] c334, mM 29 7, mU 30 (.idxArr false 5 1 28 29), mB .or 31 27 30, mM 4 31])))))))))) (.seq (.reg [mM 32 4, mM 33 0, mB .neq 34 33 (.c (.s [])), mM 2 32, mM 3 34]) .ret))))
def r283 : List ARes := [.t 2, .t 3]
theorem k283 (c333 : T 333) (c334 : T 334) : compFn Tryz.prog 283 = some ⟨35, (s283 c333 c334).er, r283⟩ := by kernel_rfl
abbrev q283 (O : Ops Tryz.prog) (c333 : T 333) (c334 : T 334) := curF 1 (sfn O (s283 c333 c334) r283)
def g283 : { g // g = q283 } := by
  have h : q283 = q283 := rfl
  conv at h => rhs; reduce
  exact ⟨_, h.symm⟩
def C283 : T 283 := mkRun 1 (k283 C333 C334) (by decide) (g283.1 (theOps Tryz.prog) C333 C334) (by rw [g283.2])
def s284 : S := .join [0, 1, 4, 5] [] (.reg [mN 4 (.newz [.i .u8 0, .i .u8 0, .i .u8 0, .i .u8 0, .i .u8 0, .i .u8 0, .i .u8 0, .i .u8 0, .i .u8 0, .i .u8 0, .i .u8 0, .i .u8 0, 0]), mN 5 (.newz [0, 0, .b false, .b false, 0, 0, 0, .i .u32 0, .i .u32 0, .s []])]) (.seq (.reg [mM 8 0, mB .sub 9 (.c 3) 8, mM 6 9]) (.join [0, 1, 4, 5, 6, 7] [] (.reg [mU 10 (.build [.i .u8 0, .i .u8 0, .i .u8 0, .i .u8 0, .i .u8 0, .i .u8 0, .i .u8 0, .i .u8 0, .i .u8 0, .i .u8 0, .i .u8 0, .i .u8 0, 0] [(12, (1, .c 2048))]), mN 7 (.newz [.i .u8 0, .i .u8 0, .i .u8 0, .i .u8 0, .i .u8 0, .i .u8 0, .i .u8 0, .i .u8 0, .i .u8 0, .i .u8 0, .i .u8 0, .i .u8 0, 0]), mZ (.st 13 7 10)]) (.seq (.reg [mM 11 0, mU 12 (.conv .u8 11), mM 13 6, mU 14 (.conv .u8 13), mF 6 15 7, mU 16 (.idxAddrArr 6 1 15 (.c 5)), mZ (.st 1 16 12), mF 0 17 7, mU 18 (.idxAddrArr 6 1 17 (.c 5)), mZ (.st 1 18 14)]) (.seq (.reg [mR 19 (.ldN 13 7), mM 20 1, mM 21 0, mB .or 22 (.c 167772160) 21, mU 23 (.conv .u32 22), mM 24 6, mB .or 25 (.c 167772160) 24, mU 26 (.conv .u32 25), mU 27 (.build [0, 0, .b false, .b false, 0, 0, 0, .i .u32 0, .i .u32 0, .s []] [(5, (1, .c 64)), (6, (1, 20)), (7, (1, 23)), (8, (1, 26))]), mZ (.st 13 4 19), mZ (.st 10 5 27)]) .ret))))
def r284 : List ARes := [.c true 13 4, .c true 10 5]
theorem k284 : compFn Tryz.prog 284 = some ⟨28, (s284).er, r284⟩ := by kernel_rfl
abbrev q284 (O : Ops Tryz.prog) := curF 2 (sfn O (s284) r284)
def g284 : { g // g = q284 } := by
  have h : q284 = q284 := rfl
  conv at h => rhs; reduce
  exact ⟨_, h.symm⟩
def C284 : T 284 := mkRun 2 (k284) (by decide) (g284.1 (theOps Tryz.prog)) (by rw [g284.2])
def s285 : S := .seq (.reg [mK 4 0, mK 5 0]) (.seq (.seq (.reg [mM 6 0, mB .eql 7 6 (.c 1)]) (.cond 7 (.seq (.reg [mM 8 1, mM 4 8, mK 5 80]) .ret) .skip)) (.seq (.reg [mM 9 1, mK 4 80, mM 5 9]) .ret))
def r285 : List ARes := [.t 4, .t 5]
theorem k285 : compFn Tryz.prog 285 = some ⟨10, (s285).er, r285⟩ := by kernel_rfl
abbrev q285 (O : Ops Tryz.prog) := curF 2 (sfn O (s285) r285)
def g285 : { g // g = q285 } := by
  have h : q285 = q285 := rfl
  conv at h => rhs; reduce
  exact ⟨_, h.symm⟩
def C285 : T 285 := mkRun 2 (k285) (by decide) (g285.1 (theOps Tryz.prog)) (by rw [g285.2])
def s290 (c337 : T 337) : S := .seq (.reg [mK 2 (.s [])]) (.seq (.reg [mM 3 0, mQ 4 337 [3, .c (.s [32])] c337, mB .add 5 4 (.c (.s [10])), mM 2 5]) .ret)
def r290 : List ARes := [.t 2]
theorem k290 (c337 : T 337) : compFn Tryz.prog 290 = some ⟨6, (s290 c337).er, r290⟩ := by kernel_rfl
abbrev q290 (O : Ops Tryz.prog) (c337 : T 337) := curF 1 (sfn O (s290 c337) r290)
def g290 : { g // g = q290 } := by
  have h : q290 = q290 := rfl
  conv at h => rhs; reduce
  exact ⟨_, h.symm⟩
def C290 : T 290 := mkRun 1 (k290 C337) (by decide) (g290.1 (theOps Tryz.prog) C337) (by rw [g290.2])
def s376 : S := .seq (.reg [mK 2 (.s [])]) (.seq (.seq (.reg [mM 6 0, mB .eql 7 6 (.c (.s []))]) (.cond 7 (.seq (.reg [mK 2 (.s [45])]) .ret) .skip)) (.seq (.reg [mM 8 0, mN 9 (.s2b 8), mM 3 9]) (.seq (.seq (.reg [mM 10 3, mU 11 (.lenSl 10), mK 12 0]) (.block 0 (.loop [12] [3, 10, 11] (.seq (.reg [mB .lss 13 12 11]) (.seq (.cond 13 .skip (.exit 0)) (.join [3, 10, 11, 12] [] (.block 1 (.seq (.reg [mM 14 12, mU 15 (.idxAddrSl 1 10 12), mL 16 15, mM 4 14, mM 5 16]) (.seq (.reg [mM 17 5, mB .lss 18 17 (.c (.i .u8 33)), mM 19 18, (mM 20 5).g 19 false, (mB .gtr 21 20 (.c (.i .u8 126))).g 19 false, mU 22 (.pick 19 (.c (.b true)) 21)]) (.cond 22 (.reg [mM 23 3, mM 24 4, mU 25 (.idxAddrSl 1 23 24), mZ (.st 1 25 (.c (.i .u8 46)))]) .skip)))) (.reg [mB .add 26 12 (.c 1), mM 12 26]))))))) (.seq (.reg [mM 27 3, mR 28 (.b2s 27), mM 2 28]) .ret))))
def r376 : List ARes := [.t 2]
theorem k376 : compFn Tryz.prog 376 = some ⟨29, (s376).er, r376⟩ := by kernel_rfl
abbrev q376 (O : Ops Tryz.prog) := curF 1 (sfn O (s376) r376)
def g376 : { g // g = q376 } := by
  have h : q376 = q376 := rfl
  conv at h => rhs; reduce
  exact ⟨_, h.symm⟩
def C376 : T 376 := mkRun 1 (k376) (by decide) (g376.1 (theOps Tryz.prog)) (by rw [g376.2])
def s335 (c99 : T 99) (c101 : T 101) (c103 : T 103) (c213 : T 213) (c290 : T 290) (c334 : T 334) (c376 : T 376) : S := .seq (.reg [mN 1 (.box 0), mK 2 (.s [])]) (.join [1, 3] [] (.reg [mF 0 13 1, mL 14 13, mQ 15 213 [14] c213, mM 3 15]) (.join [3, 4, 5, 6] [] (.reg [mF 1 17 1, mL 18 17, mQ 19 99 [18] c99, mM 16 19, mU 20 (.extract 0 16), mU 21 (.extract 1 16), mU 22 (.extract 2 16), mN 4 (.newz [.i .u8 0, .i .u8 0, .i .u8 0, .i .u8 0, .i .u8 0, .i .u8 0, .i .u8 0, .i .u8 0, .i .u8 0, .i .u8 0, .i .u8 0, .i .u8 0, 0]), mZ (.st 13 4 20), mM 5 21, mM 6 22]) (.join [3, 5] [] (.seq (.reg [mM 23 6, mB .neq 24 23 (.c 0), mM 25 24, (mF 12 26 4).g 25 false, (mL 27 26).g 25 false, (mB .neq 28 27 (.c 2048)).g 25 false, mU 29 (.pick 25 (.c (.b true)) 28)]) (.cond 29 (.seq (.reg [mM 30 3, mN 31 (.bslice 1 3 [.s [], .s [], .s []] [(0, (1, .c (.s [111, 117, 116]))), (1, (1, 30)), (2, (1, .c (.s [111, 116, 104, 101, 114])))]), mQ 32 290 [31] c290, mM 2 32]) .ret) .skip)) (.join [3, 5, 6, 7] [] (.reg [mM 34 5, mQ 35 101 [34] c101, mM 33 35, mU 36 (.extract 0 33), mU 37 (.extract 1 33), mU 38 (.extract 2 33), mN 7 (.newz [0, 0, .b false, .b false, 0, 0, 0, .i .u32 0, .i .u32 0, .s []]), mZ (.st 10 7 36), mM 5 37, mM 6 38]) (.join [3, 5, 7] [] (.seq (.reg [mM 39 6, mB .neq 40 39 (.c 0), mM 41 40, (mF 6 42 7).g 41 false, (mL 43 42).g 41 false, (mB .neq 44 43 (.c 6)).g 41 false, mU 45 (.pick 41 (.c (.b true)) 44)]) (.cond 45 (.seq (.reg [mM 46 3, mN 47 (.bslice 1 3 [.s [], .s [], .s []] [(0, (1, .c (.s [111, 117, 116]))), (1, (1, 46)), (2, (1, .c (.s [111, 116, 104, 101, 114])))]), mQ 48 290 [47] c290, mM 2 48]) .ret) .skip)) (.join [3, 6, 8, 9] [] (.reg [mF 7 50 7, mL 51 50, mF 8 52 7, mL 53 52, mM 54 5, mQ 55 103 [51, 53, 54] c103, mM 49 55, mU 56 (.extract 0 49), mU 57 (.extract 1 49), mU 58 (.extract 2 49), mN 8 (.newz [0, 0, .i .u32 0, .i .u32 0, 0, 0, .s []]), mZ (.st 7 8 56), mM 9 57, mM 6 58]) (.join [3, 8, 9] [] (.seq (.reg [mM 59 6, mB .neq 60 59 (.c 0)]) (.cond 60 (.seq (.reg [mM 61 3, mN 62 (.bslice 1 3 [.s [], .s [], .s []] [(0, (1, .c (.s [111, 117, 116]))), (1, (1, 61)), (2, (1, .c (.s [111, 116, 104, 101, 114])))]), mQ 63 290 [62] c290, mM 2 63]) .ret) .skip)) (.seq (.reg [mK 10 (.s [])]) (.join [3, 8, 9, 10] [] (.seq (.reg [mQ 64 334 [] c334, mK 65 0]) (.block 0 (.loop [10, 65] [3, 8, 9, 64] (.seq (.reg [mB .lss 66 65 (.c 5)]) (.seq (.cond 66 .skip (.exit 0)) (.join [3, 8, 9, 10, 64, 65] [] (.block 1 (.seq (.reg [mM 67 65, mU 68 (.idxArr false 5 1 64 65), mM 11 67, mM 12 68]) (.seq (.reg [mF 4 69 8, mL 70 69, mM 71 12, mB .and 72 70 71, mB .neq 73 72 (.c 0)]) (.cond 73 (.reg [mM 74 10, mM 75 11, mM 76 11, mB .add 77 76 (.c 1), mU 78 (.slStr (.c (.s [83, 65, 70, 82, 80])) (some 75) (some 77)), mB .add 79 74 78, mM 10 79]) .skip)))) (.reg [mB .add 80 65 (.c 1), mM 65 80]))))))) (.join [3, 8, 9, 10] [] (.seq (.reg [mM 81 10, mB .eql 82 81 (.c (.s []))]) (.cond 82 (.reg [mK 10 (.s [45])]) .skip)) (.seq (.draw 15 [⟨[], [dP 0 83 (.mv 3) 3, dP 1 84 (.mv 10) 3, dP 2 85 (.fieldAddr 2 8) 0, dR 3 86 (.ld1 85) 0, dP 4 87 (.conv .i64 86) 0, dP 6 89 (.fieldAddr 3 8) 1, dR 7 90 (.ld1 89) 1, dP 8 91 (.conv .i64 90) 1, dP 10 93 (.mv 9) 2], some (mQ 88 213 [87] c213)⟩, ⟨[⟨some 90, .read (.ld1 89), none⟩], [], some (mQ 92 213 [91] c213)⟩, ⟨[], [], some (mQ 94 376 [93] c376)⟩, ⟨[], [⟨12, ⟨some 95, .alloc (.bslice 1 6 [.s [], .s [], .s [], .s [], .s [], .s []] [(0, (1, .c (.s [111, 117, 116]))), (1, (1, 83)), (2, (1, 84)), (3, (1, 88)), (4, (1, 92)), (5, (1, 94))]), none⟩, 3⟩], some (mQ 96 290 [95] c290)⟩, ⟨[], [dP 14 2 (.mv 96) 4], none⟩]) .ret)))))))))))
def r335 : List ARes := [.t 2]
theorem k335 (c99 : T 99) (c101 : T 101) (c103 : T 103) (c213 : T 213) (c290 : T 290) (c334 : T 334) (c376 : T 376) : compFn Tryz.prog 335 = some ⟨97, (s335 c99 c101 c103 c213 c290 c334 c376).er, r335⟩ := by kernel_rfl
abbrev q335 (O : Ops Tryz.prog) (c99 : T 99) (c101 : T 101) (c103 : T 103) (c213 : T 213) (c290 : T 290) (c334 : T 334) (c376 : T 376) := curF 1 (sfn O (s335 c99 c101 c103 c213 c290 c334 c376) r335)
def g335 : { g // g = q335 } := by
  have h : q335 = q335 := rfl
  conv at h => rhs; reduce
  exact ⟨_, h.symm⟩
def C335 : T 335 := mkRun 1 (k335 C99 C101 C103 C213 C290 C334 C376) (by decide) (g335.1 (theOps Tryz.prog) C99 C101 C103 C213 C290 C334 C376) (by rw [g335.2])
def s286 (c79 : T 79) (c80 : T 80) (c213 : T 213) (c290 : T 290) (c335 : T 335) : S := .seq (.reg [mN 1 (.box 0), mK 2 (.s [])]) (.seq (.reg [mN 3 (.newb 140)]) (.join [1, 3] [] (.join [1, 3, 9, 10, 11] [] (.reg [mF 1 8 1, mL 9 8, mU 10 (.lenSl 9), mK 11 0]) (.block 0 (.loop [11] [1, 3, 9, 10] (.seq (.reg [mB .lss 12 11 10]) (.seq (.cond 12 .skip (.exit 0)) (.seq (.block 1 (.join [1, 3, 5, 9, 10, 11] [] (.reg [mU 13 (.idxAddrSl 4 9 11), mR 14 (.ldN 4 13), mN 5 (.newz [0, 0, 0, 0]), mZ (.st 4 5 14)]) (.draw 15 [⟨[], [dP 0 15 (.fieldAddr 0 5) 0, dR 1 16 (.ld1 15) 0, dP 3 18 (.fieldAddr 1 5) 1, dR 4 19 (.ld1 18) 1, dP 6 21 (.fieldAddr 2 5) 2, dR 7 22 (.ld1 21) 2, dP 9 24 (.fieldAddr 3 5) 3, dR 10 25 (.ld1 24) 3], some (mQ 17 213 [16] c213)⟩, ⟨[⟨some 19, .read (.ld1 18), none⟩, ⟨some 22, .read (.ld1 21), none⟩, ⟨some 25, .read (.ld1 24), none⟩], [], some (mQ 20 213 [19] c213)⟩, ⟨[⟨some 22, .read (.ld1 21), none⟩, ⟨some 25, .read (.ld1 24), none⟩], [], some (mQ 23 213 [22] c213)⟩, ⟨[⟨some 25, .read (.ld1 24), none⟩], [], some (mQ 26 213 [25] c213)⟩, ⟨[], [⟨12, ⟨some 27, .alloc (.bslice 1 5 [.s [], .s [], .s [], .s [], .s []] [(0, (1, .c (.s [110, 111, 116, 101]))), (1, (1, 17)), (2, (1, 20)), (3, (1, 23)), (4, (1, 26))]), none⟩, 4⟩], some (mQ 28 290 [27] c290)⟩, ⟨[], [], some (mQ 29 79 [3, 28] c79)⟩, ⟨[], [], none⟩]))) (.reg [mB .add 30 11 (.c 1), mM 11 30]))))))) (.seq (.seq (.reg [mF 0 31 1, mL 32 31, mU 33 (.lenSl 32), mK 34 0]) (.block 2 (.loop [34] [3, 32, 33] (.seq (.reg [mB .lss 35 34 33]) (.seq (.cond 35 .skip (.exit 2)) (.seq (.block 3 (.seq (.reg [mU 36 (.idxAddrSl 2 32 34), mR 37 (.ldN 2 36), mN 7 (.newz [0, .s []]), mZ (.st 2 7 37)]) (.reg [mR 38 (.ldN 2 7), mQ 39 335 [38] c335, mQ 40 79 [3, 39] c79]))) (.reg [mB .add 41 34 (.c 1), mM 34 41]))))))) (.seq (.reg [mQ 42 80 [3] c80, mM 2 42]) .ret))))
def r286 : List ARes := [.t 2]
theorem k286 (c79 : T 79) (c80 : T 80) (c213 : T 213) (c290 : T 290) (c335 : T 335) : compFn Tryz.prog 286 = some ⟨43, (s286 c79 c80 c213 c290 c335).er, r286⟩ := by kernel_rfl
abbrev q286 (O : Ops Tryz.prog) (c79 : T 79) (c80 : T 80) (c213 : T 213) (c290 : T 290) (c335 : T 335) := curF 1 (sfn O (s286 c79 c80 c213 c290 c335) r286)
def g286 : { g // g = q286 } := by
  have h : q286 = q286 := rfl
  conv at h => rhs; reduce
  exact ⟨_, h.symm⟩
def C286 : T 286 := mkRun 1 (k286 C79 C80 C213 C290 C335) (by decide) (g286.1 (theOps Tryz.prog) C79 C80 C213 C290 C335) (by rw [g286.2])
def s287 : S := .seq (.reg [mK 2 (.s [])]) (.seq (.seq (.reg [mM 3 0, mB .eql 4 3 (.c (.s [45]))]) (.cond 4 (.seq (.reg [mK 2 (.s [])]) .ret) .skip)) (.seq (.reg [mM 5 0, mM 2 5]) .ret))
def r287 : List ARes := [.t 2]
theorem k287 : compFn Tryz.prog 287 = some ⟨6, (s287).er, r287⟩ := by kernel_rfl
abbrev q287 (O : Ops Tryz.prog) := curF 1 (sfn O (s287) r287)
def g287 : { g // g = q287 } := by
  have h : q287 = q287 := rfl
  conv at h => rhs; reduce
  exact ⟨_, h.symm⟩
def C287 : T 287 := mkRun 1 (k287) (by decide) (g287.1 (theOps Tryz.prog)) (by rw [g287.2])
def s215 (c21 : T 21) (c272 : T 272) (c282 : T 282) (c283 : T 283) (c284 : T 284) (c285 : T 285) (c286 : T 286) (c287 : T 287) : S := .seq (.reg [mK 4 (.s []), mK 5 (.b false)]) (.join [0, 1] [] (.seq (.reg [mM 13 1, mU 14 (.lenSl 13), mB .neq 15 14 (.c 6)]) (.cond 15 (.seq (.reg [mK 4 (.s []), mK 5 (.b false)]) .ret) .skip)) (.join [0, 1, 6, 7] [] (.draw 19 [⟨[], [dP 0 17 (.mv 1) 0, dP 1 18 (.idxAddrSl 1 17 (.c 0)) 0, dR 2 19 (.ld1 18) 0, dP 3 20 (.mv 1) 0, dP 4 21 (.idxAddrSl 1 20 (.c 1)) 0, dR 5 22 (.ld1 21) 0, dP 6 23 (.mv 1) 0, dP 7 24 (.idxAddrSl 1 23 (.c 3)) 0, dR 8 25 (.ld1 24) 0, dP 9 26 (.mv 1) 0, dP 10 27 (.idxAddrSl 1 26 (.c 4)) 0, dR 11 28 (.ld1 27) 0, ⟨12, ⟨some 29, .alloc (.bslice 1 4 [.s [], .s [], .s [], .s []] [(0, (1, 19)), (1, (1, 22)), (2, (1, 25)), (3, (1, 28))]), none⟩, 0⟩], some (mQ 30 282 [29] c282)⟩, ⟨[], [dP 14 16 (.mv 30) 1, dP 15 31 (.extract 0 16) 1, dP 16 32 (.extract 1 16) 1, dP 17 6 (.mv 31) 1, dP 18 7 (.mv 32) 1], none⟩]) (.join [0, 1, 6, 7, 8, 9] [] (.reg [mM 34 1, mU 35 (.idxAddrSl 1 34 (.c 2)), mL 36 35, mQ 37 283 [36] c283, mM 33 37, mU 38 (.extract 0 33), mU 39 (.extract 1 33), mM 8 38, mM 9 39]) (.join [0, 1, 6, 8] [] (.seq (.reg [mM 40 7, mU 41 (.un .not 40), mM 42 41, (mM 43 9).g 42 false, (mU 44 (.un .not 43)).g 42 false, mU 45 (.pick 42 (.c (.b true)) 44), mM 46 45, (mM 47 6).g 46 false, (mU 48 (.idxAddrSl 1 47 (.c 0))).g 46 false, (mL 49 48).g 46 false, (mB .lss 50 49 (.c 1)).g 46 false, mU 51 (.pick 46 (.c (.b true)) 50), mM 52 51, (mM 53 6).g 52 false, (mU 54 (.idxAddrSl 1 53 (.c 0))).g 52 false, (mL 55 54).g 52 false, (mB .gtr 56 55 (.c 2)).g 52 false, mU 57 (.pick 52 (.c (.b true)) 56)]) (.cond 57 (.seq (.reg [mK 4 (.s []), mK 5 (.b false)]) .ret) .skip)) (.join [0, 1, 6, 8, 10, 11] [] (.reg [mM 59 6, mU 60 (.idxAddrSl 1 59 (.c 0)), mL 61 60, mQ 62 284 [61, .c 6] c284, mM 58 62, mU 63 (.extract 0 58), mU 64 (.extract 1 58), mN 10 (.newz [.i .u8 0, .i .u8 0, .i .u8 0, .i .u8 0, .i .u8 0, .i .u8 0, .i .u8 0, .i .u8 0, .i .u8 0, .i .u8 0, .i .u8 0, .i .u8 0, 0]), mN 11 (.newz [0, 0, .b false, .b false, 0, 0, 0, .i .u32 0, .i .u32 0, .s []]), mZ (.st 13 10 63), mZ (.st 10 11 64)]) (.join [0, 1, 6, 10, 11, 12] [] (.draw 12 [⟨[], [dP 0 65 (.mv 6) 0, dP 1 66 (.idxAddrSl 1 65 (.c 2)) 0, dR 2 67 (.ld1 66) 0, dP 3 68 (.conv .u32 67) 0, dP 4 69 (.mv 6) 0, dP 5 70 (.idxAddrSl 1 69 (.c 3)) 0, dR 6 71 (.ld1 70) 0, dP 7 72 (.conv .u32 71) 0, dP 8 73 (.mv 8) 0, dP 9 74 (.build [0, 0, .i .u32 0, .i .u32 0, 0, 0, .s []] [(2, (1, 68)), (3, (1, 72)), (4, (1, 73)), (5, (1, .c 1000))]) 0, ⟨10, ⟨some 12, .alloc (.newz [0, 0, .i .u32 0, .i .u32 0, 0, 0, .s []]), none⟩, 0⟩], some (mZ (.st 7 12 74))⟩, ⟨[], [], none⟩]) (.join [0, 1, 6, 10, 11, 12] [] (.draw 0 [⟨[], [dP 0 76 (.mv 6) 0, dP 1 77 (.idxAddrSl 1 76 (.c 0)) 0, dR 2 78 (.ld1 77) 0, dP 3 79 (.mv 6) 0, dP 4 80 (.idxAddrSl 1 79 (.c 1)) 0, dR 5 81 (.ld1 80) 0], some (mQ 82 285 [78, 81] c285)⟩, ⟨[], [dP 7 75 (.mv 82) 1, dP 8 83 (.extract 0 75) 1, dP 9 84 (.extract 1 75) 2, dP 10 85 (.fieldAddr 0 12) 1], some (mZ (.st 1 85 83))⟩, ⟨[], [dP 12 86 (.fieldAddr 1 12) 2], some (mZ (.st 1 86 84))⟩, ⟨[], [], none⟩]) (.seq (.draw 0 [⟨[], [dP 0 87 (.mv 0) 2, dP 1 88 (.nilCheck 87) 2, dP 2 89 (.fieldAddr 0 88) 2, dR 3 90 (.ld1 89) 2, dP 4 91 (.mv 6) 2, dP 5 92 (.idxAddrSl 1 91 (.c 0)) 2, dR 6 93 (.ld1 92) 2, dP 7 94 (.bin .sub 93 (.c 1)) 2, dR 8 95 (.ldN 13 10) 1, dR 9 96 (.ldN 10 11) 1, dR 10 97 (.ldN 7 12) 1, dP 11 98 (.mv 1) 0, dP 12 99 (.idxAddrSl 1 98 (.c 5)) 0, dR 13 100 (.ld1 99) 0], some (mQ 101 287 [100] c287)⟩, ⟨[⟨some 90, .read (.ld1 89), none⟩, ⟨some 93, .read (.ld1 92), none⟩, ⟨some 95, .read (.ldN 13 10), none⟩, ⟨some 96, .read (.ldN 10 11), none⟩, ⟨some 97, .read (.ldN 7 12), none⟩], [], some (mQ 102 272 [95, 96, 97, 101] c272)⟩, ⟨[⟨some 90, .read (.ld1 89), none⟩, ⟨some 93, .read (.ld1 92), none⟩], [], some (mQ 103 21 [90, 94, 102] c21)⟩, ⟨[], [], some (mQ 104 286 [103] c286)⟩, ⟨[], [dP 18 4 (.mv 104) 4, dP 19 5 (.mv (.c (.b true))) 4], none⟩]) .ret))))))))
def r215 : List ARes := [.t 4, .t 5]
theorem k215 (c21 : T 21) (c272 : T 272) (c282 : T 282) (c283 : T 283) (c284 : T 284) (c285 : T 285) (c286 : T 286) (c287 : T 287) : compFn Tryz.prog 215 = some ⟨105, (s215 c21 c272 c282 c283 c284 c285 c286 c287).er, r215⟩ := by kernel_rfl
abbrev q215 (O : Ops Tryz.prog) (c21 : T 21) (c272 : T 272) (c282 : T 282) (c283 : T 283) (c284 : T 284) (c285 : T 285) (c286 : T 286) (c287 : T 287) := curF 2 (sfn O (s215 c21 c272 c282 c283 c284 c285 c286 c287) r215)
def g215 : { g // g = q215 } := by
  have h : q215 = q215 := rfl
  conv at h => rhs; reduce
  exact ⟨_, h.symm⟩
def C215 : T 215 := mkRun 2 (k215 C21 C272 C282 C283 C284 C285 C286 C287) (by decide) (g215.1 (theOps Tryz.prog) C21 C272 C282 C283 C284 C285 C286 C287) (by rw [g215.2])
def s288 (c172 : T 172) (c173 : T 173) (c254 : T 254) (c270 : T 270) : S := .seq (.reg [mN 6 (.box 2), mK 8 (.s []), mK 9 0]) (.join [0, 1, 3, 6, 10] [] (.reg [mM 13 3, mU 14 (.lenS 13), mB .add 15 (.c 8) 14, mM 10 15]) (.join [0, 1, 3, 6, 10] [] (.block 0 (.seq (.reg [mF 0 17 6, mL 18 17, mF 1 19 6, mL 20 19, mN 21 (.bslice 1 2 [0, 0] [(0, (1, 18)), (1, (1, 20))]), mQ 22 270 [.c 65535, 21] c270, mU 23 (.un .not 22), mM 16 23]) (.cond 16 (.seq (.reg [mK 8 (.s []), mK 9 1]) .ret) (.seq (.reg [mM 25 10, mB .gtr 26 25 (.c 2000), mM 24 26]) (.cond 24 (.seq (.reg [mK 8 (.s []), mK 9 5]) .ret) .skip))))) (.seq (.draw 0 [⟨[], [dP 0 27 (.fieldAddr 0 6) 0, dR 1 28 (.ld1 27) 0, dP 3 30 (.fieldAddr 1 6) 1, dR 4 31 (.ld1 30) 1, dP 7 34 (.mv 10) 2], some (mQ 29 254 [28, .c 2] c254)⟩, ⟨[⟨some 31, .read (.ld1 30), none⟩], [], some (mQ 32 254 [31, .c 2] c254)⟩, ⟨[], [dP 6 33 (.bin .add 29 32) 3], some (mQ 35 254 [34, .c 2] c254)⟩, ⟨[], [dP 9 36 (.bin .add 33 35) 3, dP 10 11 (.mv 36) 3], none⟩]) (.seq (.reg [mM 37 0, mM 38 1, mM 39 10, mQ 40 173 [37, 38, 39] c173, mM 41 11, mM 42 3, mN 43 (.bslice 1 4 [.s [], .s [], .s [], .s []] [(0, (1, 40)), (1, (1, 41)), (2, (1, .c (.s [0, 0]))), (3, (1, 42))]), mQ 44 172 [43] c172, mM 12 44]) (.join [3, 11, 12] [] (.seq (.reg [mM 45 12, mB .eql 46 45 (.c 0)]) (.cond 46 (.reg [mK 12 65535]) .skip)) (.seq (.reg [mM 47 11, mM 48 12, mQ 49 254 [48, .c 2] c254, mB .add 50 47 49, mM 51 3, mB .add 52 50 51, mM 8 52, mK 9 0]) .ret))))))
def r288 : List ARes := [.t 8, .t 9]
theorem k288 (c172 : T 172) (c173 : T 173) (c254 : T 254) (c270 : T 270) : compFn Tryz.prog 288 = some ⟨53, (s288 c172 c173 c254 c270).er, r288⟩ := by kernel_rfl
abbrev q288 (O : Ops Tryz.prog) (c172 : T 172) (c173 : T 173) (c254 : T 254) (c270 : T 270) := curF 4 (sfn O (s288 c172 c173 c254 c270) r288)
def g288 : { g // g = q288 } := by
  have h : q288 = q288 := rfl
  conv at h => rhs; reduce
  exact ⟨_, h.symm⟩
def C288 : T 288 := mkRun 4 (k288 C172 C173 C254 C270) (by decide) (g288.1 (theOps Tryz.prog) C172 C173 C254 C270) (by rw [g288.2])
def s216 (c21 : T 21) (c106 : T 106) (c282 : T 282) (c284 : T 284) (c285 : T 285) (c286 : T 286) (c287 : T 287) (c288 : T 288) : S := .seq (.reg [mK 4 (.s []), mK 5 (.b false)]) (.join [0, 1] [] (.seq (.reg [mM 14 1, mU 15 (.lenSl 14), mB .neq 16 15 (.c 3)]) (.cond 16 (.seq (.reg [mK 4 (.s []), mK 5 (.b false)]) .ret) .skip)) (.join [0, 1, 6, 7] [] (.draw 13 [⟨[], [dP 0 18 (.mv 1) 0, dP 1 19 (.idxAddrSl 1 18 (.c 0)) 0, dR 2 20 (.ld1 19) 0, dP 3 21 (.mv 1) 0, dP 4 22 (.idxAddrSl 1 21 (.c 1)) 0, dR 5 23 (.ld1 22) 0, ⟨6, ⟨some 24, .alloc (.bslice 1 2 [.s [], .s []] [(0, (1, 20)), (1, (1, 23))]), none⟩, 0⟩], some (mQ 25 282 [24] c282)⟩, ⟨[], [dP 8 17 (.mv 25) 1, dP 9 26 (.extract 0 17) 1, dP 10 27 (.extract 1 17) 1, dP 11 6 (.mv 26) 1, dP 12 7 (.mv 27) 1], none⟩]) (.join [0, 1, 6] [] (.seq (.reg [mM 28 7, mU 29 (.un .not 28), mM 30 29, (mM 31 6).g 30 false, (mU 32 (.idxAddrSl 1 31 (.c 0))).g 30 false, (mL 33 32).g 30 false, (mB .lss 34 33 (.c 1)).g 30 false, mU 35 (.pick 30 (.c (.b true)) 34), mM 36 35, (mM 37 6).g 36 false, (mU 38 (.idxAddrSl 1 37 (.c 0))).g 36 false, (mL 39 38).g 36 false, (mB .gtr 40 39 (.c 2)).g 36 false, mU 41 (.pick 36 (.c (.b true)) 40)]) (.cond 41 (.seq (.reg [mK 4 (.s []), mK 5 (.b false)]) .ret) .skip)) (.join [0, 1, 6, 8, 9] [] (.reg [mM 43 6, mU 44 (.idxAddrSl 1 43 (.c 0)), mL 45 44, mQ 46 284 [45, .c 17] c284, mM 42 46, mU 47 (.extract 0 42), mU 48 (.extract 1 42), mN 8 (.newz [.i .u8 0, .i .u8 0, .i .u8 0, .i .u8 0, .i .u8 0, .i .u8 0, .i .u8 0, .i .u8 0, .i .u8 0, .i .u8 0, .i .u8 0, .i .u8 0, 0]), mN 9 (.newz [0, 0, .b false, .b false, 0, 0, 0, .i .u32 0, .i .u32 0, .s []]), mZ (.st 13 8 47), mZ (.st 10 9 48)]) (.seq (.reg [mN 10 (.newz [0, 0, 0, 0, .i .u32 0])]) (.join [0, 1, 6, 8, 9, 10] [] (.draw 0 [⟨[], [dP 0 50 (.mv 6) 0, dP 1 51 (.idxAddrSl 1 50 (.c 0)) 0, dR 2 52 (.ld1 51) 0, dP 3 53 (.mv 6) 0, dP 4 54 (.idxAddrSl 1 53 (.c 1)) 0, dR 5 55 (.ld1 54) 0], some (mQ 56 285 [52, 55] c285)⟩, ⟨[], [dP 7 49 (.mv 56) 1, dP 8 57 (.extract 0 49) 1, dP 9 58 (.extract 1 49) 2, dP 10 59 (.fieldAddr 0 10) 1], some (mZ (.st 1 59 57))⟩, ⟨[], [dP 12 60 (.fieldAddr 1 10) 2], some (mZ (.st 1 60 58))⟩, ⟨[], [], none⟩]) (.join [0, 6, 8, 9, 11, 12] [] (.draw 0 [⟨[], [dP 0 62 (.fieldAddr 7 9) 1, dR 1 63 (.ld1 62) 1, dP 2 64 (.fieldAddr 8 9) 1, dR 3 65 (.ld1 64) 1, dR 4 66 (.ldN 5 10) 1, dP 5 67 (.mv 1) 0, dP 6 68 (.idxAddrSl 1 67 (.c 2)) 0, dR 7 69 (.ld1 68) 0], some (mQ 70 287 [69] c287)⟩, ⟨[⟨some 63, .read (.ld1 62), none⟩, ⟨some 65, .read (.ld1 64), none⟩, ⟨some 66, .read (.ldN 5 10), none⟩], [], some (mQ 71 288 [63, 65, 66, 70] c288)⟩, ⟨[], [dP 10 61 (.mv 71) 2, dP 11 72 (.extract 0 61) 2, dP 12 73 (.extract 1 61) 2, dP 13 11 (.mv 72) 2, dP 14 12 (.mv 73) 2], none⟩]) (.seq (.reg [mK 13 (.s [])]) (.join [0, 6, 13] [] (.seq (.reg [mM 74 12, mB .eql 75 74 (.c 0)]) (.cond 75 (.reg [mR 76 (.ldN 13 8), mR 77 (.ldN 10 9), mM 78 11, mQ 79 106 [76, 77, 78] c106, mM 13 79]) .skip)) (.seq (.draw 0 [⟨[], [dP 0 80 (.mv 0) 0, dP 1 81 (.nilCheck 80) 0, dP 2 82 (.fieldAddr 0 81) 0, dR 3 83 (.ld1 82) 0, dP 4 84 (.mv 6) 0, dP 5 85 (.idxAddrSl 1 84 (.c 0)) 0, dR 6 86 (.ld1 85) 0, dP 7 87 (.bin .sub 86 (.c 1)) 0, dP 8 88 (.mv 13) 0], some (mQ 89 21 [83, 87, 88] c21)⟩, ⟨[], [], some (mQ 90 286 [89] c286)⟩, ⟨[], [dP 11 4 (.mv 90) 2, dP 12 5 (.mv (.c (.b true))) 2], none⟩]) .ret))))))))))
def r216 : List ARes := [.t 4, .t 5]
theorem k216 (c21 : T 21) (c106 : T 106) (c282 : T 282) (c284 : T 284) (c285 : T 285) (c286 : T 286) (c287 : T 287) (c288 : T 288) : compFn Tryz.prog 216 = some ⟨91, (s216 c21 c106 c282 c284 c285 c286 c287 c288).er, r216⟩ := by kernel_rfl
abbrev q216 (O : Ops Tryz.prog) (c21 : T 21) (c106 : T 106) (c282 : T 282) (c284 : T 284) (c285 : T 285) (c286 : T 286) (c287 : T 287) (c288 : T 288) := curF 2 (sfn O (s216 c21 c106 c282 c284 c285 c286 c287 c288) r216)
def g216 : { g // g = q216 } := by
  have h : q216 = q216 := rfl
  conv at h => rhs; reduce
  exact ⟨_, h.symm⟩
def C216 : T 216 := mkRun 2 (k216 C21 C106 C282 C284 C285 C286 C287 C288) (by decide) (g216.1 (theOps Tryz.prog) C21 C106 C282 C284 C285 C286 C287 C288) (by rw [g216.2])
def s336 (c213 : T 213) (c337 : T 337) : S := .seq (.reg [mK 2 (.s [])]) (.seq (.reg [mK 3 (.sl 0 none 0 0)]) (.seq (.seq (.reg [mK 4 3]) (.block 0 (.loop [3, 4] [0] (.seq (.seq (.reg [mM 5 4, mB .geq 6 5 (.c 0)]) (.cond 6 .skip (.exit 0))) (.seq (.block 1 (.reg [mM 9 3, mM 10 0, mM 11 4, mB .mul 12 (.c 8) 11, mB .shr 13 10 12, mB .and 14 13 (.c (.i .u32 255)), mU 15 (.conv .i64 14), mQ 16 213 [15] c213, mN 17 (.bslice 1 1 [.s []] [(0, (1, 16))]), mY 18 (.append 1 16 9 17), mM 3 18])) (.reg [mM 7 4, mB .sub 8 7 (.c 1), mM 4 8])))))) (.seq (.reg [mM 19 3, mQ 20 337 [19, .c (.s [46])] c337, mM 2 20]) .ret)))
def r336 : List ARes := [.t 2]
theorem k336 (c213 : T 213) (c337 : T 337) : compFn Tryz.prog 336 = some ⟨21, (s336 c213 c337).er, r336⟩ := by kernel_rfl
abbrev q336 (O : Ops Tryz.prog) (c213 : T 213) (c337 : T 337) := curF 1 (sfn O (s336 c213 c337) r336)
def g336 : { g // g = q336 } := by
  have h : q336 = q336 := rfl
  conv at h => rhs; reduce
  exact ⟨_, h.symm⟩
def C336 : T 336 := mkRun 1 (k336 C213 C337) (by decide) (g336.1 (theOps Tryz.prog) C213 C337) (by rw [g336.2])
def s289 (c213 : T 213) (c336 : T 336) : S := .seq (.reg [mN 1 (.box 0), mK 2 (.s [])]) (.join [1, 3] [] (.reg [mF 0 4 1, mL 5 4, mQ 6 213 [5] c213, mM 3 6]) (.join [1, 3] [] (.seq (.reg [mF 0 7 1, mL 8 7]) (.block 0 (.seq (.reg [mB .eql 10 8 (.c 1), mM 9 10]) (.cond 9 (.reg [mK 3 (.s [105, 99, 109, 112])]) (.seq (.reg [mB .eql 12 8 (.c 6), mM 11 12]) (.cond 11 (.reg [mK 3 (.s [116, 99, 112])]) (.seq (.reg [mB .eql 14 8 (.c 17), mM 13 14]) (.cond 13 (.reg [mK 3 (.s [117, 100, 112])]) .skip)))))))) (.seq (.draw 0 [⟨[], [dP 0 15 (.mv 3) 4, dP 1 16 (.bin .add 15 (.c (.s [32]))) 4, dP 2 17 (.fieldAddr 1 1) 0, dR 3 18 (.ld1 17) 0, dP 7 22 (.fieldAddr 3 1) 1, dR 8 23 (.ld1 22) 1, dP 12 27 (.fieldAddr 2 1) 2, dR 13 28 (.ld1 27) 2, dP 17 32 (.fieldAddr 4 1) 3, dR 18 33 (.ld1 32) 3], some (mQ 19 336 [18] c336)⟩, ⟨[⟨some 23, .read (.ld1 22), none⟩, ⟨some 28, .read (.ld1 27), none⟩, ⟨some 33, .read (.ld1 32), none⟩], [dP 5 20 (.bin .add 16 19) 4, dP 6 21 (.bin .add 20 (.c (.s [58]))) 4], some (mQ 24 213 [23] c213)⟩, ⟨[⟨some 28, .read (.ld1 27), none⟩, ⟨some 33, .read (.ld1 32), none⟩], [dP 10 25 (.bin .add 21 24) 4, dP 11 26 (.bin .add 25 (.c (.s [62]))) 4], some (mQ 29 336 [28] c336)⟩, ⟨[⟨some 33, .read (.ld1 32), none⟩], [dP 15 30 (.bin .add 26 29) 4, dP 16 31 (.bin .add 30 (.c (.s [58]))) 4], some (mQ 34 213 [33] c213)⟩, ⟨[], [dP 20 35 (.bin .add 31 34) 4, dP 21 2 (.mv 35) 4], none⟩]) .ret)))
def r289 : List ARes := [.t 2]
theorem k289 (c213 : T 213) (c336 : T 336) : compFn Tryz.prog 289 = some ⟨36, (s289 c213 c336).er, r289⟩ := by kernel_rfl
abbrev q289 (O : Ops Tryz.prog) (c213 : T 213) (c336 : T 336) := curF 1 (sfn O (s289 c213 c336) r289)
def g289 : { g // g = q289 } := by
  have h : q289 = q289 := rfl
  conv at h => rhs; reduce
  exact ⟨_, h.symm⟩
def C289 : T 289 := mkRun 1 (k289 C213 C336) (by decide) (g289.1 (theOps Tryz.prog) C213 C336) (by rw [g289.2])
def s218 (c79 : T 79) (c80 : T 80) (c289 : T 289) : S := .seq (.reg [mK 2 (.s [])]) (.seq (.reg [mN 3 (.newb 140)]) (.seq (.seq (.reg [mM 6 0, mU 7 (.lenSl 6), mK 8 0]) (.block 0 (.loop [8] [3, 6, 7] (.seq (.reg [mB .lss 9 8 7]) (.seq (.cond 9 .skip (.exit 0)) (.seq (.block 1 (.seq (.reg [mU 10 (.idxAddrSl 5 6 8), mR 11 (.ldN 5 10), mN 5 (.newz [0, .i .u32 0, .i .u32 0, 0, 0]), mZ (.st 5 5 11)]) (.reg [mR 12 (.ldN 5 5), mQ 13 289 [12] c289, mB .add 14 13 (.c (.s [10])), mQ 15 79 [3, 14] c79]))) (.reg [mB .add 16 8 (.c 1), mM 8 16]))))))) (.seq (.reg [mQ 17 80 [3] c80, mM 2 17]) .ret)))
def r218 : List ARes := [.t 2]
theorem k218 (c79 : T 79) (c80 : T 80) (c289 : T 289) : compFn Tryz.prog 218 = some ⟨18, (s218 c79 c80 c289).er, r218⟩ := by kernel_rfl
abbrev q218 (O : Ops Tryz.prog) (c79 : T 79) (c80 : T 80) (c289 : T 289) := curF 1 (sfn O (s218 c79 c80 c289) r218)
def g218 : { g // g = q218 } := by
  have h : q218 = q218 := rfl
  conv at h => rhs; reduce
  exact ⟨_, h.symm⟩
def C218 : T 218 := mkRun 1 (k218 C79 C80 C289) (by decide) (g218.1 (theOps Tryz.prog) C79 C80 C289) (by rw [g218.2])
def s25 : S := .seq (.reg [mN 2 (.newz [0, 0, 0, 0, 0, 0, 0, 0, 0, 0, 0, 0, 0, 0])]) (.seq (.reg [mM 3 0, mU 4 (.nilCheck 3), mF 15 5 4, mR 6 (.ldN 14 5), mZ (.st 14 2 6)]) .ret)
def r25 : List ARes := [.c true 14 2]
theorem k25 : compFn Tryz.prog 25 = some ⟨7, (s25).er, r25⟩ := by kernel_rfl
abbrev q25 (O : Ops Tryz.prog) := curF 1 (sfn O (s25) r25)
def g25 : { g // g = q25 } := by
  have h : q25 = q25 := rfl
  conv at h => rhs; reduce
  exact ⟨_, h.symm⟩
def C25 : T 25 := mkRun 1 (k25) (by decide) (g25.1 (theOps Tryz.prog)) (by rw [g25.2])
def s219 (c25 : T 25) (c213 : T 213) (c290 : T 290) : S := .seq (.reg [mK 2 (.s [])]) (.join [3] [] (.reg [mM 7 0, mU 8 (.nilCheck 7), mF 0 9 8, mL 10 9, mQ 11 25 [10] c25, mN 3 (.newz [0, 0, 0, 0, 0, 0, 0, 0, 0, 0, 0, 0, 0, 0]), mZ (.st 14 3 11)]) (.seq (.reg [mK 4 (.sl 0 none 0 0)]) (.seq (.seq (.reg [mF 0 12 3, mL 13 12, mF 1 14 3, mL 15 14, mF 2 16 3, mL 17 16, mF 3 18 3, mL 19 18, mF 4 20 3, mL 21 20, mF 5 22 3, mL 23 22, mF 6 24 3, mL 25 24, mF 7 26 3, mL 27 26, mF 8 28 3, mL 29 28, mF 9 30 3, mL 31 30, mF 10 32 3, mL 33 32, mF 11 34 3, mL 35 34, mF 12 36 3, mL 37 36, mF 13 38 3, mL 39 38, mN 40 (.bslice 1 14 [0, 0, 0, 0, 0, 0, 0, 0, 0, 0, 0, 0, 0, 0] [(0, (1, 13)), (1, (1, 15)), (2, (1, 17)), (3, (1, 19)), (4, (1, 21)), (5, (1, 23)), (6, (1, 25)), (7, (1, 27)), (8, (1, 29)), (9, (1, 31)), (10, (1, 33)), (11, (1, 35)), (12, (1, 37)), (13, (1, 39))]), mU 41 (.lenSl 40), mK 42 0]) (.block 0 (.loop [4, 42] [40, 41] (.seq (.reg [mB .lss 43 42 41]) (.seq (.cond 43 .skip (.exit 0)) (.seq (.block 1 (.seq (.reg [mU 44 (.idxAddrSl 1 40 42), mL 45 44, mM 6 45]) (.reg [mM 46 4, mM 47 6, mQ 48 213 [47] c213, mN 49 (.bslice 1 1 [.s []] [(0, (1, 48))]), mY 50 (.append 1 16 46 49), mM 4 50]))) (.reg [mB .add 51 42 (.c 1), mM 42 51]))))))) (.seq (.reg [mM 52 4, mQ 53 290 [52] c290, mM 2 53]) .ret))))
def r219 : List ARes := [.t 2]
theorem k219 (c25 : T 25) (c213 : T 213) (c290 : T 290) : compFn Tryz.prog 219 = some ⟨54, (s219 c25 c213 c290).er, r219⟩ := by kernel_rfl
abbrev q219 (O : Ops Tryz.prog) (c25 : T 25) (c213 : T 213) (c290 : T 290) := curF 1 (sfn O (s219 c25 c213 c290) r219)
def g219 : { g // g = q219 } := by
  have h : q219 = q219 := rfl
  conv at h => rhs; reduce
  exact ⟨_, h.symm⟩
def C219 : T 219 := mkRun 1 (k219 C25 C213 C290) (by decide) (g219.1 (theOps Tryz.prog) C25 C213 C290) (by rw [g219.2])
def s143 (c24 : T 24) (c28 : T 28) (c29 : T 29) (c30 : T 30) (c31 : T 31) (c215 : T 215) (c216 : T 216) (c217 : T 217) (c218 : T 218) (c219 : T 219) : S := .seq (.reg [mK 4 (.s []), mK 5 (.b false)]) (.join [0, 1] [] (.join [0, 1, 10] [] (.reg [mM 8 1, mU 9 (.idxAddrSl 1 8 (.c 0)), mL 10 9]) (.block 0 (.seq (.reg [mB .eql 12 10 (.c (.s [116, 99, 112])), mM 11 12]) (.cond 11 (.seq (.reg [mM 13 0, mM 14 1, mU 15 (.slSl 1 14 (some (.c 1)) none none), mQ 16 215 [13, 15] c215, mU 17 (.extract 0 16), mU 18 (.extract 1 16), mM 4 17, mM 5 18]) .ret) (.seq (.reg [mB .eql 20 10 (.c (.s [117, 100, 112])), mM 19 20]) (.cond 19 (.seq (.reg [mM 21 0, mM 22 1, mU 23 (.slSl 1 22 (some (.c 1)) none none), mQ 24 216 [21, 23] c216, mU 25 (.extract 0 24), mU 26 (.extract 1 24), mM 4 25, mM 5 26]) .ret) (.seq (.reg [mB .eql 28 10 (.c (.s [116, 105, 99, 107])), mM 27 28]) (.cond 27 (.seq (.seq (.reg [mM 29 1, mU 30 (.lenSl 29), mB .neq 31 30 (.c 2)]) (.cond 31 (.seq (.reg [mK 4 (.s []), mK 5 (.b false)]) .ret) .skip)) (.seq (.reg [mM 33 1, mU 34 (.idxAddrSl 1 33 (.c 1)), mL 35 34, mQ 36 217 [35] c217, mM 32 36, mU 37 (.extract 0 32), mU 38 (.extract 1 32), mM 6 37, mM 7 38]) (.join [7] [] (.seq (.reg [mM 39 7]) (.cond 39 (.reg [mM 40 0, mU 41 (.nilCheck 40), mF 0 42 41, mL 43 42, mM 44 6, mQ 45 28 [43, 44] c28]) .skip)) (.seq (.reg [mM 46 7, mK 4 (.s []), mM 5 46]) .ret)))) .skip)))))))) (.join [0, 1] [] (.seq (.reg [mM 47 1, mU 48 (.lenSl 47), mB .gtr 49 48 (.c 1)]) (.cond 49 (.seq (.reg [mK 4 (.s []), mK 5 (.b false)]) .ret) .skip)) (.join [] [] (.join [0, 52] [] (.reg [mM 50 1, mU 51 (.idxAddrSl 1 50 (.c 0)), mL 52 51]) (.block 1 (.seq (.block 7 (.seq (.block 6 (.seq (.block 5 (.join [] [] (.block 4 (.seq (.block 3 (.seq (.block 2 (.seq (.seq (.seq (.reg [mB .eql 54 52 (.c (.s [117, 110, 98, 108, 111, 99, 107])), mM 53 54]) (.cond 53 (.exit 2) .skip)) (.seq (.seq (.reg [mB .eql 56 52 (.c (.s [102, 108, 117, 115, 104])), mM 55 56]) (.cond 55 (.exit 3) .skip)) (.seq (.seq (.reg [mB .eql 58 52 (.c (.s [])), mM 57 58]) (.cond 57 (.exit 4) .skip)) (.seq (.seq (.reg [mB .eql 60 52 (.c (.s [102, 108, 111, 119, 115])), mM 59 60]) (.cond 59 (.exit 5) .skip)) (.seq (.seq (.reg [mB .eql 62 52 (.c (.s [98, 108, 111, 99, 107, 115])), mM 61 62]) (.cond 61 (.exit 6) .skip)) (.seq (.reg [mB .eql 64 52 (.c (.s [99, 111, 117, 110, 116, 115])), mM 63 64]) (.cond 63 (.exit 7) .skip))))))) (.exit 1))) (.seq (.seq (.reg [mM 65 0, mU 66 (.nilCheck 65), mF 0 67 66, mL 68 67, mQ 69 29 [68] c29]) (.seq (.reg [mK 4 (.s []), mK 5 (.b true)]) .ret)) (.exit 1)))) (.reg [mM 70 0, mU 71 (.nilCheck 70), mF 0 72 71, mL 73 72, mQ 74 30 [73] c30]))) (.seq (.seq (.reg [mK 4 (.s []), mK 5 (.b true)]) .ret) (.exit 1)))) (.seq (.seq (.reg [mM 75 0, mU 76 (.nilCheck 75), mF 0 77 76, mL 78 77, mQ 79 31 [78] c31, mQ 80 218 [79] c218, mM 4 80, mK 5 (.b true)]) .ret) (.exit 1)))) (.seq (.seq (.reg [mM 81 0, mU 82 (.nilCheck 81), mF 0 83 82, mL 84 83, mQ 85 24 [84] c24, mQ 86 218 [85] c218, mM 4 86, mK 5 (.b true)]) .ret) (.exit 1)))) (.seq (.seq (.reg [mM 87 0, mQ 88 219 [87] c219, mM 4 88, mK 5 (.b true)]) .ret) (.exit 1))))) (.seq (.reg [mK 4 (.s []), mK 5 (.b false)]) .ret))))
def r143 : List ARes := [.t 4, .t 5]
theorem k143 (c24 : T 24) (c28 : T 28) (c29 : T 29) (c30 : T 30) (c31 : T 31) (c215 : T 215) (c216 : T 216) (c217 : T 217) (c218 : T 218) (c219 : T 219) : compFn Tryz.prog 143 = some ⟨89, (s143 c24 c28 c29 c30 c31 c215 c216 c217 c218 c219).er, r143⟩ := by kernel_rfl
abbrev q143 (O : Ops Tryz.prog) (c24 : T 24) (c28 : T 28) (c29 : T 29) (c30 : T 30) (c31 : T 31) (c215 : T 215) (c216 : T 216) (c217 : T 217) (c218 : T 218) (c219 : T 219) := curF 2 (sfn O (s143 c24 c28 c29 c30 c31 c215 c216 c217 c218 c219) r143)
def g143 : { g // g = q143 } := by
  have h : q143 = q143 := rfl
  conv at h => rhs; reduce
  exact ⟨_, h.symm⟩
def C143 : T 143 := mkRun 2 (k143 C24 C28 C29 C30 C31 C215 C216 C217 C218 C219) (by decide) (g143.1 (theOps Tryz.prog) C24 C28 C29 C30 C31 C215 C216 C217 C218 C219) (by rw [g143.2])
def s77 (c140 : T 140) (c141 : T 141) (c142 : T 142) (c143 : T 143) : S := .seq (.reg [mK 4 (.s [])]) (.seq (.reg [mM 8 1, mQ 9 140 [8] c140, mM 5 9]) (.seq (.seq (.reg [mM 10 5, mU 11 (.lenSl 10), mB .eql 12 11 (.c 0), mM 13 12, (mM 14 5).g 13 false, (mU 15 (.idxAddrSl 1 14 (.c 0))).g 13 false, (mL 16 15).g 13 false, (mQ 17 142 [16, .c (.s [35])] c142).g 13 false, mU 18 (.pick 13 (.c (.b true)) 17)]) (.cond 18 (.seq (.reg [mK 4 (.s [])]) .ret) .skip)) (.seq (.reg [mM 20 0, mM 21 5, mQ 22 143 [20, 21] c143, mM 19 22, mU 23 (.extract 0 19), mU 24 (.extract 1 19), mM 6 23, mM 7 24]) (.seq (.seq (.reg [mM 25 7, mU 26 (.un .not 25)]) (.cond 26 (.seq (.reg [mQ 27 141 [.c 11, .c (.sl 0 none 0 0)] c141, mM 4 27]) .ret) .skip)) (.seq (.reg [mM 28 6, mM 4 28]) .ret)))))
def r77 : List ARes := [.t 4]
theorem k77 (c140 : T 140) (c141 : T 141) (c142 : T 142) (c143 : T 143) : compFn Tryz.prog 77 = some ⟨29, (s77 c140 c141 c142 c143).er, r77⟩ := by kernel_rfl
abbrev q77 (O : Ops Tryz.prog) (c140 : T 140) (c141 : T 141) (c142 : T 142) (c143 : T 143) := curF 2 (sfn O (s77 c140 c141 c142 c143) r77)
def g77 : { g // g = q77 } := by
  have h : q77 = q77 := rfl
  conv at h => rhs; reduce
  exact ⟨_, h.symm⟩
def C77 : T 77 := mkRun 2 (k77 C140 C141 C142 C143) (by decide) (g77.1 (theOps Tryz.prog) C140 C141 C142 C143) (by rw [g77.2])
def s35 (c17 : T 17) (c74 : T 74) (c75 : T 75) (c76 : T 76) (c77 : T 77) (c78 : T 78) (c79 : T 79) (c80 : T 80) : S := .seq (.reg [mK 2 (.s []), mK 3 0]) (.join [0] [] (.seq (.reg [mM 11 0, mU 12 (.lenS 11), mB .gtr 13 12 (.c 32768)]) (.cond 13 (.seq (.reg [mK 2 (.s []), mK 3 5]) .ret) .skip)) (.join [0, 4] [] (.reg [mU 15 (.build [0, 0, 0, 0, 0, 0, 0, 0, 0] [(0, (1, .c 4)), (1, (1, .c 2)), (2, (1, .c 20)), (3, (1, .c 20)), (4, (1, .c 4)), (5, (1, .c 60)), (6, (1, .c 10)), (7, (1, .c 3)), (8, (1, .c 6))]), mQ 16 17 [15] c17, mM 14 16, mU 17 (.extract 0 14), mU 18 (.extract 1 14), mM 4 17, mM 5 18]) (.join [0, 6] [] (.reg [mM 19 4, mU 20 (.build [.p none] [(0, (1, 19))]), mN 21 (.box 20), mM 6 21]) (.seq (.reg [mN 7 (.newb 140)]) (.seq (.reg [mM 22 0, mQ 23 74 [22] c74, mM 8 23]) (.seq .skip (.join [7] [] (.block 0 (.loop [8] [6, 7] (.join [6, 7, 8] [] (.seq (.reg [mM 24 8, mU 25 (.lenSl 24), mB .gtr 26 25 (.c 0)]) (.cond 26 .skip (.exit 0))) (.block 1 (.join [6, 7, 8, 10] [] (.draw 0 [⟨[], [dP 0 27 (.mv 8) 0, dP 1 28 (.idxAddrSl 1 27 (.c 0)) 0, dR 2 29 (.ld1 28) 0, dP 3 9 (.mv (.c (.s []))) 0, dP 4 10 (.mv 29) 0], none⟩]) (.seq (.reg [mM 30 8, mU 31 (.slSl 1 30 (some (.c 1)) none none), mM 8 31]) (.join [6, 7, 8, 9] [] (.seq (.reg [mM 32 10, mQ 33 75 [32, .c (.s [114, 117, 108, 101, 115])] c75]) (.cond 33 (.reg [mM 35 6, mM 36 8, mQ 37 76 [35, 36] c76, mM 34 37, mU 38 (.extract 0 34), mU 39 (.extract 1 34), mM 9 38, mM 8 39]) (.reg [mM 40 6, mM 41 10, mQ 42 77 [40, 41] c77, mM 9 42]))) (.seq (.seq (.reg [mM 43 9, mU 44 (.lenS 43), mQ 45 78 [7] c78, mB .sub 46 (.c 1048576) 45, mB .gtr 47 44 46]) (.cond 47 (.exit 0) .skip)) (.reg [mM 48 9, mQ 49 79 [7, 48] c79]))))))))) (.seq (.reg [mQ 50 80 [7] c80, mM 2 50, mK 3 0]) .ret))))))))
def r35 : List ARes := [.t 2, .t 3]
theorem k35 (c17 : T 17) (c74 : T 74) (c75 : T 75) (c76 : T 76) (c77 : T 77) (c78 : T 78) (c79 : T 79) (c80 : T 80) : compFn Tryz.prog 35 = some ⟨51, (s35 c17 c74 c75 c76 c77 c78 c79 c80).er, r35⟩ := by kernel_rfl
abbrev q35 (O : Ops Tryz.prog) (c17 : T 17) (c74 : T 74) (c75 : T 75) (c76 : T 76) (c77 : T 77) (c78 : T 78) (c79 : T 79) (c80 : T 80) := curF 1 (sfn O (s35 c17 c74 c75 c76 c77 c78 c79 c80) r35)
def g35 : { g // g = q35 } := by
  have h : q35 = q35 := rfl
  conv at h => rhs; reduce
  exact ⟨_, h.symm⟩
def C35 : T 35 := mkRun 1 (k35 C17 C74 C75 C76 C77 C78 C79 C80) (by decide) (g35.1 (theOps Tryz.prog) C17 C74 C75 C76 C77 C78 C79 C80) (by rw [g35.2])
def s36 (c35 : T 35) : S := .seq (.reg [mK 0 (.b false)]) (.seq (.reg [mQ 4 35 [.c (.s [99, 111, 117, 110, 116, 115, 10, 104, 111, 112, 10])] c35, mM 3 4, mU 5 (.extract 0 3), mU 6 (.extract 1 3), mM 1 5, mM 2 6]) (.seq (.reg [mM 7 2, mB .eql 8 7 (.c 0), mM 9 8, (mM 10 1).g 9 true, (mB .eql 11 10 (.c (.s [48, 32, 48, 32, 48, 32, 48, 32, 48, 32, 48, 32, 48, 32, 48, 32, 48, 32, 48, 32, 48, 32, 48, 32, 48, 32, 48, 10, 101, 114, 114, 111, 114, 32, 49, 49, 10]))).g 9 true, mU 12 (.pick 9 11 (.c (.b false))), mM 0 12]) .ret))
def r36 : List ARes := [.t 0]
theorem k36 (c35 : T 35) : compFn Tryz.prog 36 = some ⟨13, (s36 c35).er, r36⟩ := by kernel_rfl
abbrev q36 (O : Ops Tryz.prog) (c35 : T 35) := curF 0 (sfn O (s36 c35) r36)
def g36 : { g // g = q36 } := by
  have h : q36 = q36 := rfl
  conv at h => rhs; reduce
  exact ⟨_, h.symm⟩
def C36 : T 36 := mkRun 0 (k36 C35) (by decide) (g36.1 (theOps Tryz.prog) C35) (by rw [g36.2])
end
end Go.Proofs.YtjaammiblfndaaaGreatDoor
