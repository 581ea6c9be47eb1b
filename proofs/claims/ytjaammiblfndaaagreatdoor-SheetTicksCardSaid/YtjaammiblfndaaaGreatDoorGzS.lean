/- A part of the proof: contracts of functions, over the abstract machine. -/
import Derived.Test.YtjaammiblfndaaaGreatDoorGzP
import Derived.Test.YtjaammiblfndaaaGreatDoorProg
import Derived.KernelRfl
set_option linter.unusedVariables false
set_option linter.unusedSimpArgs false
set_option linter.all false
/- The law SheetTicks: its runs. -/
namespace Go.Proofs.YtjaammiblfndaaaGreatDoor
open Ram Go
noncomputable section
set_option maxRecDepth 100000
set_option maxHeartbeats 4000000
/- 10: rampart/rampartlaw28.SheetTicks -/
def s10 (a : Int) (l0 : Nat) (ok0 : OkG [.i .i64 a, .i .i64 (Int.ofNat 14)] l0) (c15 : T 15) (c35 : T 35) (c36 : T 36) : SC Tryz.prog := .seq (.reg [mK 2 (.b false)]) (.seq (.reg [mM 11 0, (⟨some 12, .callG 13 [11, .c 14] [.i .i64 a, .i .i64 (Int.ofNat 14)] (.i .i64 (Int.ofNat l0)) ok0, none⟩ : SOper _), mM 3 12]) (.seq (.reg [mK 4 (.s [116, 99, 112, 32, 49, 48, 46, 48, 46, 48, 46, 49, 58, 57, 62, 49, 48, 46, 48, 46, 48, 46, 50, 58, 56, 48, 10])]) (.seq (.reg [mK 5 (.s [111, 117, 116, 32, 49, 32, 83, 32, 49, 32, 48, 32, 45, 10])]) (.join [5] [3] (.seq (.reg [mM 13 3, mB .lss 14 13 (.c 10)]) (.cond 14 (.reg [mM 15 5, mM 16 4, mB .add 17 15 16, mM 5 17]) .skip)) (.join [6, 7] [3, 5] (.reg [mM 19 3, mQ 20 15 [19] c15, mB .add 21 (.c (.s [116, 99, 112, 32, 49, 32, 57, 32, 83, 32, 49, 32, 48, 32, 45, 10, 116, 105, 99, 107, 32])) 20, mB .add 22 21 (.c (.s [10, 102, 108, 111, 119, 115, 10])), mQ 23 35 [22] c35, mM 18 23, mU 24 (.extract 0 18), mU 25 (.extract 1 18), mM 6 24, mM 7 25]) (.join [8, 9] [3, 5, 6, 7] (.reg [mM 27 3, mQ 28 15 [27] c15, mB .add 29 (.c (.s [114, 117, 108, 101, 115, 10, 98, 108, 111, 99, 107, 32, 117, 100, 112, 32, 97, 110, 121, 32, 97, 110, 121, 32, 45, 62, 32, 97, 110, 121, 32, 97, 110, 121, 32, 40, 99, 111, 110, 116, 101, 110, 116, 58, 34, 120, 34, 59, 32, 115, 105, 100, 58, 52, 59, 41, 10, 101, 110, 100, 10, 117, 100, 112, 32, 49, 32, 57, 32, 120, 10, 116, 105, 99, 107, 32])) 28, mB .add 30 29 (.c (.s [10, 117, 100, 112, 32, 49, 32, 57, 32, 121, 10, 117, 110, 98, 108, 111, 99, 107, 10, 117, 100, 112, 32, 49, 32, 57, 32, 121, 10])), mQ 31 35 [30] c35, mM 26 31, mU 32 (.extract 0 26), mU 33 (.extract 1 26), mM 8 32, mM 9 33]) (.seq (.reg [mK 10 (.s [111, 117, 116, 32, 49, 32, 111, 116, 104, 101, 114, 10])]) (.join [10] [5, 6, 7, 8, 9] (.seq (.reg [mM 34 3, mB .geq 35 34 (.c 6)]) (.cond 35 (.reg [mM 36 10, mM 37 10, mB .add 38 36 37, mM 10 38]) .skip)) (.seq (.reg [mM 39 7, mB .eql 40 39 (.c 0), mM 41 40, (mM 42 9).g 41 true, (mB .eql 43 42 (.c 0)).g 41 true, mU 44 (.pick 41 43 (.c (.b false))), mM 45 44, (mM 46 6).g 45 true, (mM 47 5).g 45 true, (mB .eql 48 46 47).g 45 true, mU 49 (.pick 45 48 (.c (.b false))), mM 50 49, (mM 51 8).g 50 true, (mM 52 10).g 50 true, (mB .add 53 (.c (.s [110, 111, 116, 101, 32, 52, 32, 48, 32, 49, 32, 52, 10])) 52).g 50 true, (mB .eql 54 51 53).g 50 true, mU 55 (.pick 50 54 (.c (.b false))), mM 56 55, (mQ 57 36 [] c36).g 56 true, mU 58 (.pick 56 57 (.c (.b false))), mM 2 58]) .ret)))))))))
def r10 : List ARes := [.t 2]
theorem k10 (a : Int) (l0 : Nat) (ok0 : OkG [.i .i64 a, .i .i64 (Int.ofNat 14)] l0) (c15 : T 15) (c35 : T 35) (c36 : T 36) : compFn Tryz.prog 10 = some ⟨59, (s10 a l0 ok0 c15 c35 c36).er, r10⟩ := by kernel_rfl
def g10 (a : Int) (l0 : Nat) (ok0 : OkG [.i .i64 a, .i .i64 (Int.ofNat 14)] l0) : { g : Ops Tryz.prog → RunF Tryz.prog 15 → RunF Tryz.prog 35 → RunF Tryz.prog 36 → AH → KT → Bool // ∀ O : Ops Tryz.prog, (∀ vs t, O.oAssert vs vs t = t) → ∀ (c15 : T 15) (c35 : T 35) (c36 : T 36) (H : AH) (k : KT), g O c15 c35 c36 H k = sfn O (s10 a l0 ok0 c15 c35 c36) r10 [.i .i64 a] H k } := by
  have h : ∀ O : Ops Tryz.prog, (∀ vs t, O.oAssert vs vs t = t) → ∀ (c15 : T 15) (c35 : T 35) (c36 : T 36) (H : AH) (k : KT), sfn O (s10 a l0 ok0 c15 c35 c36) r10 [.i .i64 a] H k = sfn O (s10 a l0 ok0 c15 c35 c36) r10 [.i .i64 a] H k := fun _ _ _ _ _ _ _ => rfl
  conv at h => enter [O, hA, c15, c35, c36, H, k]; rhs; reduce; simp only [hA]
  exact ⟨_, fun O hA c15 c35 c36 H k => (h O hA c15 c35 c36 H k).symm⟩
def run10 (a : Int) (l0 : Nat) (ok0 : OkG [.i .i64 a, .i .i64 (Int.ofNat 14)] l0) : Bool := (g10 a l0 ok0).1 (theOps Tryz.prog) C15 C35 B36 AH.none fun v _ => isT v
theorem law10 (a : Int) (l0 : Nat) (ok0 : OkG [.i .i64 a, .i .i64 (Int.ofNat 14)] l0) (h : run10 a l0 ok0 = true) (W : World) : ACalls Tryz.prog W 10 [.i .i64 a] AH.none fun e _ => e = .ret (.b true) := by
  unfold run10 at h
  rw [(g10 a l0 ok0).2 (theOps _) opAssert_self] at h
  refine (sfn_true (k10 a l0 ok0 C15 C35 B36) (by simp) h).mono fun e H hh => ?_
  obtain ⟨v, rfl, h1⟩ := hh
  exact congrArg AEnd.ret (isT_true h1)
end
end Go.Proofs.YtjaammiblfndaaaGreatDoor
