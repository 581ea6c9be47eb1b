/- A part of the proof: contracts of functions, over the abstract machine. -/
import Derived.Test.YtjaammiblfndaaaGreatDoorFzT
import Derived.KernelRfl
set_option linter.unusedVariables false
set_option linter.unusedSimpArgs false
set_option linter.all false
/- Runs of a law. -/
namespace Go.Proofs.YtjaammiblfndaaaGreatDoor
open Ram Go
set_option maxRecDepth 1000000
theorem t1_15_5 (a b c : Int) (v1 : V) (ok0 : OkG [.i .i64 a, .i .i64 (Int.ofNat 3)] 1) (ok1 : OkG [.i .i64 b, .i .i64 (Int.ofNat 20)] 15) (ok2 : OkD [.i .i64 c, v1] 5 5) : run4 a b c v1 1 15 5 5 ok0 ok1 ok2 = true := by kernel_rfl
theorem t1_15_10 (a b c : Int) (v1 : V) (ok0 : OkG [.i .i64 a, .i .i64 (Int.ofNat 3)] 1) (ok1 : OkG [.i .i64 b, .i .i64 (Int.ofNat 20)] 15) (ok2 : OkD [.i .i64 c, v1] 10 5) : run4 a b c v1 1 15 10 5 ok0 ok1 ok2 = true := by kernel_rfl
theorem t1_15_15 (a b c : Int) (v1 : V) (ok0 : OkG [.i .i64 a, .i .i64 (Int.ofNat 3)] 1) (ok1 : OkG [.i .i64 b, .i .i64 (Int.ofNat 20)] 15) (ok2 : OkD [.i .i64 c, v1] 15 1) : run4 a b c v1 1 15 15 1 ok0 ok1 ok2 = true := by kernel_rfl
theorem t1_16_0 (a b c : Int) (v1 : V) (ok0 : OkG [.i .i64 a, .i .i64 (Int.ofNat 3)] 1) (ok1 : OkG [.i .i64 b, .i .i64 (Int.ofNat 20)] 16) (ok2 : OkD [.i .i64 c, v1] 0 5) : run4 a b c v1 1 16 0 5 ok0 ok1 ok2 = true := by kernel_rfl
theorem t1_16_5 (a b c : Int) (v1 : V) (ok0 : OkG [.i .i64 a, .i .i64 (Int.ofNat 3)] 1) (ok1 : OkG [.i .i64 b, .i .i64 (Int.ofNat 20)] 16) (ok2 : OkD [.i .i64 c, v1] 5 5) : run4 a b c v1 1 16 5 5 ok0 ok1 ok2 = true := by kernel_rfl
theorem t1_16_10 (a b c : Int) (v1 : V) (ok0 : OkG [.i .i64 a, .i .i64 (Int.ofNat 3)] 1) (ok1 : OkG [.i .i64 b, .i .i64 (Int.ofNat 20)] 16) (ok2 : OkD [.i .i64 c, v1] 10 5) : run4 a b c v1 1 16 10 5 ok0 ok1 ok2 = true := by kernel_rfl
theorem t1_16_15 (a b c : Int) (v1 : V) (ok0 : OkG [.i .i64 a, .i .i64 (Int.ofNat 3)] 1) (ok1 : OkG [.i .i64 b, .i .i64 (Int.ofNat 20)] 16) (ok2 : OkD [.i .i64 c, v1] 15 2) : run4 a b c v1 1 16 15 2 ok0 ok1 ok2 = true := by kernel_rfl
theorem t1_17_0 (a b c : Int) (v1 : V) (ok0 : OkG [.i .i64 a, .i .i64 (Int.ofNat 3)] 1) (ok1 : OkG [.i .i64 b, .i .i64 (Int.ofNat 20)] 17) (ok2 : OkD [.i .i64 c, v1] 0 5) : run4 a b c v1 1 17 0 5 ok0 ok1 ok2 = true := by kernel_rfl
theorem t1_17_5 (a b c : Int) (v1 : V) (ok0 : OkG [.i .i64 a, .i .i64 (Int.ofNat 3)] 1) (ok1 : OkG [.i .i64 b, .i .i64 (Int.ofNat 20)] 17) (ok2 : OkD [.i .i64 c, v1] 5 5) : run4 a b c v1 1 17 5 5 ok0 ok1 ok2 = true := by kernel_rfl
theorem t1_17_10 (a b c : Int) (v1 : V) (ok0 : OkG [.i .i64 a, .i .i64 (Int.ofNat 3)] 1) (ok1 : OkG [.i .i64 b, .i .i64 (Int.ofNat 20)] 17) (ok2 : OkD [.i .i64 c, v1] 10 5) : run4 a b c v1 1 17 10 5 ok0 ok1 ok2 = true := by kernel_rfl
end Go.Proofs.YtjaammiblfndaaaGreatDoor
