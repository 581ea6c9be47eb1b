/- A part of the proof: contracts of functions, over the abstract machine. -/
import Derived.Test.YtjaammiblfndaaaGreatDoorFzT
import Derived.KernelRfl
set_option linter.unusedVariables false
set_option linter.unusedSimpArgs false
set_option linter.all false
/- Runs of a law. -/
namespace Go.Proofs.YtjaammiblfndaaaGreatDoor
open Ram Go
set_option maxRecDepth 1000000
theorem t0_17_15 (a b c : Int) (v1 : V) (ok0 : OkG [.i .i64 a, .i .i64 (Int.ofNat 3)] 0) (ok1 : OkG [.i .i64 b, .i .i64 (Int.ofNat 20)] 17) (ok2 : OkD [.i .i64 c, v1] 15 3) : run4 a b c v1 0 17 15 3 ok0 ok1 ok2 = true := by kernel_rfl
theorem t0_18_0 (a b c : Int) (v1 : V) (ok0 : OkG [.i .i64 a, .i .i64 (Int.ofNat 3)] 0) (ok1 : OkG [.i .i64 b, .i .i64 (Int.ofNat 20)] 18) (ok2 : OkD [.i .i64 c, v1] 0 5) : run4 a b c v1 0 18 0 5 ok0 ok1 ok2 = true := by kernel_rfl
theorem t0_18_5 (a b c : Int) (v1 : V) (ok0 : OkG [.i .i64 a, .i .i64 (Int.ofNat 3)] 0) (ok1 : OkG [.i .i64 b, .i .i64 (Int.ofNat 20)] 18) (ok2 : OkD [.i .i64 c, v1] 5 5) : run4 a b c v1 0 18 5 5 ok0 ok1 ok2 = true := by kernel_rfl
theorem t0_18_10 (a b c : Int) (v1 : V) (ok0 : OkG [.i .i64 a, .i .i64 (Int.ofNat 3)] 0) (ok1 : OkG [.i .i64 b, .i .i64 (Int.ofNat 20)] 18) (ok2 : OkD [.i .i64 c, v1] 10 5) : run4 a b c v1 0 18 10 5 ok0 ok1 ok2 = true := by kernel_rfl
theorem t0_18_15 (a b c : Int) (v1 : V) (ok0 : OkG [.i .i64 a, .i .i64 (Int.ofNat 3)] 0) (ok1 : OkG [.i .i64 b, .i .i64 (Int.ofNat 20)] 18) (ok2 : OkD [.i .i64 c, v1] 15 4) : run4 a b c v1 0 18 15 4 ok0 ok1 ok2 = true := by kernel_rfl
theorem t0_19_0 (a b c : Int) (v1 : V) (ok0 : OkG [.i .i64 a, .i .i64 (Int.ofNat 3)] 0) (ok1 : OkG [.i .i64 b, .i .i64 (Int.ofNat 20)] 19) (ok2 : OkD [.i .i64 c, v1] 0 5) : run4 a b c v1 0 19 0 5 ok0 ok1 ok2 = true := by kernel_rfl
theorem t0_19_5 (a b c : Int) (v1 : V) (ok0 : OkG [.i .i64 a, .i .i64 (Int.ofNat 3)] 0) (ok1 : OkG [.i .i64 b, .i .i64 (Int.ofNat 20)] 19) (ok2 : OkD [.i .i64 c, v1] 5 5) : run4 a b c v1 0 19 5 5 ok0 ok1 ok2 = true := by kernel_rfl
theorem t0_19_10 (a b c : Int) (v1 : V) (ok0 : OkG [.i .i64 a, .i .i64 (Int.ofNat 3)] 0) (ok1 : OkG [.i .i64 b, .i .i64 (Int.ofNat 20)] 19) (ok2 : OkD [.i .i64 c, v1] 10 5) : run4 a b c v1 0 19 10 5 ok0 ok1 ok2 = true := by kernel_rfl
theorem t0_19_15 (a b c : Int) (v1 : V) (ok0 : OkG [.i .i64 a, .i .i64 (Int.ofNat 3)] 0) (ok1 : OkG [.i .i64 b, .i .i64 (Int.ofNat 20)] 19) (ok2 : OkD [.i .i64 c, v1] 15 5) : run4 a b c v1 0 19 15 5 ok0 ok1 ok2 = true := by kernel_rfl
end Go.Proofs.YtjaammiblfndaaaGreatDoor
