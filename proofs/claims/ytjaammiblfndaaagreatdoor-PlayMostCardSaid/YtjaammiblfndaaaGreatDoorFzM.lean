/- A part of the proof: contracts of functions, over the abstract machine. -/
import Derived.Test.YtjaammiblfndaaaGreatDoorFzP
import Derived.Test.YtjaammiblfndaaaGreatDoorProg
import Derived.KernelRfl
set_option linter.unusedVariables false
set_option linter.unusedSimpArgs false
set_option linter.all false
/- The law PlayMost: its runs. -/
namespace Go.Proofs.YtjaammiblfndaaaGreatDoor
open Ram Go
noncomputable section
set_option maxRecDepth 100000
set_option maxHeartbeats 4000000
/- 7: rampart/rampartlaw26.PlayMost -/
def s7 (a : Int) (l0 : Nat) (ok0 : OkG [.i .i64 a, .i .i64 (Int.ofNat 5)] l0) (c18 : T 18) (c33 : T 33) (c34 : T 34) : SC Tryz.prog := .seq (.reg [mK 2 (.b false)]) (.join [3] [] (.reg [mM 9 0, (⟨some 10, .callG 13 [9, .c 5] [.i .i64 a, .i .i64 (Int.ofNat 5)] (.i .i64 (Int.ofNat l0)) ok0, none⟩ : SOper _), mB .add 11 (.c 298) 10, mM 3 11]) (.seq (.reg [mK 4 (.sl 0 none 0 0)]) (.join [4] [3] (.seq (.reg [mK 5 0]) (.block 0 (.loop [4, 5] [3] (.seq (.seq (.reg [mM 12 5, mM 13 3, mB .lss 14 12 13]) (.cond 14 .skip (.exit 0))) (.seq (.block 1 (.reg [mM 17 4, mM 18 5, mB .rem 19 18 (.c 2), mU 20 (.build [0, 0, .s []] [(0, (1, .c 1)), (1, (1, 19)), (2, (1, .c (.s [98, 97, 100])))]), mN 21 (.bslice 3 1 [0, 0, .s []] [(0, (3, 20))]), mY 22 (.append 3 32 17 21), mM 4 22])) (.reg [mM 15 5, mB .add 16 15 (.c 1), mM 5 16])))))) (.join [6, 7, 8] [3] (.reg [mQ 24 18 [] c18, mM 25 4, mQ 26 33 [24, 25] c33, mM 23 26, mU 27 (.extract 0 23), mU 28 (.extract 1 23), mU 29 (.extract 2 23), mN 7 (.newz [0, 0, 0, 0, 0, 0, 0, 0, 0, 0, 0, 0, 0, 0]), mM 6 27, mZ (.st 14 7 28), mM 8 29]) (.seq (.reg [mM 30 8, mB .eql 31 30 (.c 0), mM 32 31, (mM 33 6).g 32 true, (mU 34 (.lenSl 33)).g 32 true, (mM 35 3).g 32 true, (mU 36 (.mxmn false [35, .c 300])).g 32 true, (mB .eql 37 34 36).g 32 true, mU 38 (.pick 32 37 (.c (.b false))), mM 39 38, (mF 0 40 7).g 39 true, (mL 41 40).g 39 true, (mM 42 6).g 39 true, (mU 43 (.lenSl 42)).g 39 true, (mB .eql 44 41 43).g 39 true, mU 45 (.pick 39 44 (.c (.b false))), mM 46 45, (mF 2 47 7).g 46 true, (mL 48 47).g 46 true, (mM 49 6).g 46 true, (mU 50 (.lenSl 49)).g 46 true, (mB .eql 51 48 50).g 46 true, mU 52 (.pick 46 51 (.c (.b false))), mM 53 52, (mQ 54 34 [] c34).g 53 true, mU 55 (.pick 53 54 (.c (.b false))), mM 2 55]) .ret)))))
def r7 : List ARes := [.t 2]
theorem k7 (a : Int) (l0 : Nat) (ok0 : OkG [.i .i64 a, .i .i64 (Int.ofNat 5)] l0) (c18 : T 18) (c33 : T 33) (c34 : T 34) : compFn Tryz.prog 7 = some ⟨56, (s7 a l0 ok0 c18 c33 c34).er, r7⟩ := by kernel_rfl
def g7 (a : Int) (l0 : Nat) (ok0 : OkG [.i .i64 a, .i .i64 (Int.ofNat 5)] l0) : { g : Ops Tryz.prog → RunF Tryz.prog 18 → RunF Tryz.prog 33 → RunF Tryz.prog 34 → AH → KT → Bool // ∀ O : Ops Tryz.prog, (∀ vs t, O.oAssert vs vs t = t) → ∀ (c18 : T 18) (c33 : T 33) (c34 : T 34) (H : AH) (k : KT), g O c18 c33 c34 H k = sfn O (s7 a l0 ok0 c18 c33 c34) r7 [.i .i64 a] H k } := by
  have h : ∀ O : Ops Tryz.prog, (∀ vs t, O.oAssert vs vs t = t) → ∀ (c18 : T 18) (c33 : T 33) (c34 : T 34) (H : AH) (k : KT), sfn O (s7 a l0 ok0 c18 c33 c34) r7 [.i .i64 a] H k = sfn O (s7 a l0 ok0 c18 c33 c34) r7 [.i .i64 a] H k := fun _ _ _ _ _ _ _ => rfl
  conv at h => enter [O, hA, c18, c33, c34, H, k]; rhs; reduce; simp only [hA]
  exact ⟨_, fun O hA c18 c33 c34 H k => (h O hA c18 c33 c34 H k).symm⟩
def run7 (a : Int) (l0 : Nat) (ok0 : OkG [.i .i64 a, .i .i64 (Int.ofNat 5)] l0) : Bool := (g7 a l0 ok0).1 (theOps Tryz.prog) C18 C33 B34 AH.none fun v _ => isT v
theorem law7 (a : Int) (l0 : Nat) (ok0 : OkG [.i .i64 a, .i .i64 (Int.ofNat 5)] l0) (h : run7 a l0 ok0 = true) (W : World) : ACalls Tryz.prog W 7 [.i .i64 a] AH.none fun e _ => e = .ret (.b true) := by
  unfold run7 at h
  rw [(g7 a l0 ok0).2 (theOps _) opAssert_self] at h
  refine (sfn_true (k7 a l0 ok0 C18 C33 B34) (by simp) h).mono fun e H hh => ?_
  obtain ⟨v, rfl, h1⟩ := hh
  exact congrArg AEnd.ret (isT_true h1)
end
end Go.Proofs.YtjaammiblfndaaaGreatDoor
