/- A part of the proof: contracts of functions, over the abstract machine. -/
import Derived.Test.YtjaammiblfndaaaGreatDoorFzT
import Derived.KernelRfl
set_option linter.unusedVariables false
set_option linter.unusedSimpArgs false
set_option linter.all false
/- Runs of a law. -/
namespace Go.Proofs.YtjaammiblfndaaaGreatDoor
open Ram Go
set_option maxRecDepth 1000000
theorem t1_12_5 (a b c : Int) (v1 : V) (ok0 : OkG [.i .i64 a, .i .i64 (Int.ofNat 3)] 1) (ok1 : OkG [.i .i64 b, .i .i64 (Int.ofNat 20)] 12) (ok2 : OkD [.i .i64 c, v1] 5 5) : run4 a b c v1 1 12 5 5 ok0 ok1 ok2 = true := by kernel_rfl
theorem t1_12_10 (a b c : Int) (v1 : V) (ok0 : OkG [.i .i64 a, .i .i64 (Int.ofNat 3)] 1) (ok1 : OkG [.i .i64 b, .i .i64 (Int.ofNat 20)] 12) (ok2 : OkD [.i .i64 c, v1] 10 3) : run4 a b c v1 1 12 10 3 ok0 ok1 ok2 = true := by kernel_rfl
theorem t1_13_0 (a b c : Int) (v1 : V) (ok0 : OkG [.i .i64 a, .i .i64 (Int.ofNat 3)] 1) (ok1 : OkG [.i .i64 b, .i .i64 (Int.ofNat 20)] 13) (ok2 : OkD [.i .i64 c, v1] 0 5) : run4 a b c v1 1 13 0 5 ok0 ok1 ok2 = true := by kernel_rfl
theorem t1_13_5 (a b c : Int) (v1 : V) (ok0 : OkG [.i .i64 a, .i .i64 (Int.ofNat 3)] 1) (ok1 : OkG [.i .i64 b, .i .i64 (Int.ofNat 20)] 13) (ok2 : OkD [.i .i64 c, v1] 5 5) : run4 a b c v1 1 13 5 5 ok0 ok1 ok2 = true := by kernel_rfl
theorem t1_13_10 (a b c : Int) (v1 : V) (ok0 : OkG [.i .i64 a, .i .i64 (Int.ofNat 3)] 1) (ok1 : OkG [.i .i64 b, .i .i64 (Int.ofNat 20)] 13) (ok2 : OkD [.i .i64 c, v1] 10 4) : run4 a b c v1 1 13 10 4 ok0 ok1 ok2 = true := by kernel_rfl
theorem t1_14_0 (a b c : Int) (v1 : V) (ok0 : OkG [.i .i64 a, .i .i64 (Int.ofNat 3)] 1) (ok1 : OkG [.i .i64 b, .i .i64 (Int.ofNat 20)] 14) (ok2 : OkD [.i .i64 c, v1] 0 5) : run4 a b c v1 1 14 0 5 ok0 ok1 ok2 = true := by kernel_rfl
theorem t1_14_5 (a b c : Int) (v1 : V) (ok0 : OkG [.i .i64 a, .i .i64 (Int.ofNat 3)] 1) (ok1 : OkG [.i .i64 b, .i .i64 (Int.ofNat 20)] 14) (ok2 : OkD [.i .i64 c, v1] 5 5) : run4 a b c v1 1 14 5 5 ok0 ok1 ok2 = true := by kernel_rfl
theorem t1_14_10 (a b c : Int) (v1 : V) (ok0 : OkG [.i .i64 a, .i .i64 (Int.ofNat 3)] 1) (ok1 : OkG [.i .i64 b, .i .i64 (Int.ofNat 20)] 14) (ok2 : OkD [.i .i64 c, v1] 10 5) : run4 a b c v1 1 14 10 5 ok0 ok1 ok2 = true := by kernel_rfl
theorem t1_15_0 (a b c : Int) (v1 : V) (ok0 : OkG [.i .i64 a, .i .i64 (Int.ofNat 3)] 1) (ok1 : OkG [.i .i64 b, .i .i64 (Int.ofNat 20)] 15) (ok2 : OkD [.i .i64 c, v1] 0 5) : run4 a b c v1 1 15 0 5 ok0 ok1 ok2 = true := by kernel_rfl
end Go.Proofs.YtjaammiblfndaaaGreatDoor
