/- A part of the proof: contracts of functions, over the abstract machine. -/
import Derived.Test.YtjaammiblfndaaaGreatDoorFzT
import Derived.KernelRfl
set_option linter.unusedVariables false
set_option linter.unusedSimpArgs false
set_option linter.all false
/- Runs of a law. -/
namespace Go.Proofs.YtjaammiblfndaaaGreatDoor
open Ram Go
set_option maxRecDepth 1000000
theorem t2_0_0 (a b c : Int) (v1 : V) (ok0 : OkG [.i .i64 a, .i .i64 (Int.ofNat 3)] 2) (ok1 : OkG [.i .i64 b, .i .i64 (Int.ofNat 20)] 0) (ok2 : OkD [.i .i64 c, v1] 0 1) : run4 a b c v1 2 0 0 1 ok0 ok1 ok2 = true := by kernel_rfl
theorem t2_1_0 (a b c : Int) (v1 : V) (ok0 : OkG [.i .i64 a, .i .i64 (Int.ofNat 3)] 2) (ok1 : OkG [.i .i64 b, .i .i64 (Int.ofNat 20)] 1) (ok2 : OkD [.i .i64 c, v1] 0 2) : run4 a b c v1 2 1 0 2 ok0 ok1 ok2 = true := by kernel_rfl
theorem t2_2_0 (a b c : Int) (v1 : V) (ok0 : OkG [.i .i64 a, .i .i64 (Int.ofNat 3)] 2) (ok1 : OkG [.i .i64 b, .i .i64 (Int.ofNat 20)] 2) (ok2 : OkD [.i .i64 c, v1] 0 3) : run4 a b c v1 2 2 0 3 ok0 ok1 ok2 = true := by kernel_rfl
theorem t2_3_0 (a b c : Int) (v1 : V) (ok0 : OkG [.i .i64 a, .i .i64 (Int.ofNat 3)] 2) (ok1 : OkG [.i .i64 b, .i .i64 (Int.ofNat 20)] 3) (ok2 : OkD [.i .i64 c, v1] 0 4) : run4 a b c v1 2 3 0 4 ok0 ok1 ok2 = true := by kernel_rfl
theorem t2_4_0 (a b c : Int) (v1 : V) (ok0 : OkG [.i .i64 a, .i .i64 (Int.ofNat 3)] 2) (ok1 : OkG [.i .i64 b, .i .i64 (Int.ofNat 20)] 4) (ok2 : OkD [.i .i64 c, v1] 0 5) : run4 a b c v1 2 4 0 5 ok0 ok1 ok2 = true := by kernel_rfl
theorem t2_5_0 (a b c : Int) (v1 : V) (ok0 : OkG [.i .i64 a, .i .i64 (Int.ofNat 3)] 2) (ok1 : OkG [.i .i64 b, .i .i64 (Int.ofNat 20)] 5) (ok2 : OkD [.i .i64 c, v1] 0 5) : run4 a b c v1 2 5 0 5 ok0 ok1 ok2 = true := by kernel_rfl
theorem t2_5_5 (a b c : Int) (v1 : V) (ok0 : OkG [.i .i64 a, .i .i64 (Int.ofNat 3)] 2) (ok1 : OkG [.i .i64 b, .i .i64 (Int.ofNat 20)] 5) (ok2 : OkD [.i .i64 c, v1] 5 1) : run4 a b c v1 2 5 5 1 ok0 ok1 ok2 = true := by kernel_rfl
theorem t2_6_0 (a b c : Int) (v1 : V) (ok0 : OkG [.i .i64 a, .i .i64 (Int.ofNat 3)] 2) (ok1 : OkG [.i .i64 b, .i .i64 (Int.ofNat 20)] 6) (ok2 : OkD [.i .i64 c, v1] 0 5) : run4 a b c v1 2 6 0 5 ok0 ok1 ok2 = true := by kernel_rfl
theorem t2_6_5 (a b c : Int) (v1 : V) (ok0 : OkG [.i .i64 a, .i .i64 (Int.ofNat 3)] 2) (ok1 : OkG [.i .i64 b, .i .i64 (Int.ofNat 20)] 6) (ok2 : OkD [.i .i64 c, v1] 5 2) : run4 a b c v1 2 6 5 2 ok0 ok1 ok2 = true := by kernel_rfl
theorem t2_7_0 (a b c : Int) (v1 : V) (ok0 : OkG [.i .i64 a, .i .i64 (Int.ofNat 3)] 2) (ok1 : OkG [.i .i64 b, .i .i64 (Int.ofNat 20)] 7) (ok2 : OkD [.i .i64 c, v1] 0 5) : run4 a b c v1 2 7 0 5 ok0 ok1 ok2 = true := by kernel_rfl
theorem t2_7_5 (a b c : Int) (v1 : V) (ok0 : OkG [.i .i64 a, .i .i64 (Int.ofNat 3)] 2) (ok1 : OkG [.i .i64 b, .i .i64 (Int.ofNat 20)] 7) (ok2 : OkD [.i .i64 c, v1] 5 3) : run4 a b c v1 2 7 5 3 ok0 ok1 ok2 = true := by kernel_rfl
theorem t2_8_0 (a b c : Int) (v1 : V) (ok0 : OkG [.i .i64 a, .i .i64 (Int.ofNat 3)] 2) (ok1 : OkG [.i .i64 b, .i .i64 (Int.ofNat 20)] 8) (ok2 : OkD [.i .i64 c, v1] 0 5) : run4 a b c v1 2 8 0 5 ok0 ok1 ok2 = true := by kernel_rfl
end Go.Proofs.YtjaammiblfndaaaGreatDoor
