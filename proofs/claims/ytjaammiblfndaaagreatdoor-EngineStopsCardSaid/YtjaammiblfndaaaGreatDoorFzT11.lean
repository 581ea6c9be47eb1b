/- A part of the proof: contracts of functions, over the abstract machine. -/
import Derived.Test.YtjaammiblfndaaaGreatDoorFzT
import Derived.KernelRfl
set_option linter.unusedVariables false
set_option linter.unusedSimpArgs false
set_option linter.all false
/- Runs of a law. -/
namespace Go.Proofs.YtjaammiblfndaaaGreatDoor
open Ram Go
set_option maxRecDepth 1000000
theorem t2_8_5 (a b c : Int) (v1 : V) (ok0 : OkG [.i .i64 a, .i .i64 (Int.ofNat 3)] 2) (ok1 : OkG [.i .i64 b, .i .i64 (Int.ofNat 20)] 8) (ok2 : OkD [.i .i64 c, v1] 5 4) : run4 a b c v1 2 8 5 4 ok0 ok1 ok2 = true := by kernel_rfl
theorem t2_9_0 (a b c : Int) (v1 : V) (ok0 : OkG [.i .i64 a, .i .i64 (Int.ofNat 3)] 2) (ok1 : OkG [.i .i64 b, .i .i64 (Int.ofNat 20)] 9) (ok2 : OkD [.i .i64 c, v1] 0 5) : run4 a b c v1 2 9 0 5 ok0 ok1 ok2 = true := by kernel_rfl
theorem t2_9_5 (a b c : Int) (v1 : V) (ok0 : OkG [.i .i64 a, .i .i64 (Int.ofNat 3)] 2) (ok1 : OkG [.i .i64 b, .i .i64 (Int.ofNat 20)] 9) (ok2 : OkD [.i .i64 c, v1] 5 5) : run4 a b c v1 2 9 5 5 ok0 ok1 ok2 = true := by kernel_rfl
theorem t2_10_0 (a b c : Int) (v1 : V) (ok0 : OkG [.i .i64 a, .i .i64 (Int.ofNat 3)] 2) (ok1 : OkG [.i .i64 b, .i .i64 (Int.ofNat 20)] 10) (ok2 : OkD [.i .i64 c, v1] 0 5) : run4 a b c v1 2 10 0 5 ok0 ok1 ok2 = true := by kernel_rfl
theorem t2_10_5 (a b c : Int) (v1 : V) (ok0 : OkG [.i .i64 a, .i .i64 (Int.ofNat 3)] 2) (ok1 : OkG [.i .i64 b, .i .i64 (Int.ofNat 20)] 10) (ok2 : OkD [.i .i64 c, v1] 5 5) : run4 a b c v1 2 10 5 5 ok0 ok1 ok2 = true := by kernel_rfl
theorem t2_10_10 (a b c : Int) (v1 : V) (ok0 : OkG [.i .i64 a, .i .i64 (Int.ofNat 3)] 2) (ok1 : OkG [.i .i64 b, .i .i64 (Int.ofNat 20)] 10) (ok2 : OkD [.i .i64 c, v1] 10 1) : run4 a b c v1 2 10 10 1 ok0 ok1 ok2 = true := by kernel_rfl
theorem t2_11_0 (a b c : Int) (v1 : V) (ok0 : OkG [.i .i64 a, .i .i64 (Int.ofNat 3)] 2) (ok1 : OkG [.i .i64 b, .i .i64 (Int.ofNat 20)] 11) (ok2 : OkD [.i .i64 c, v1] 0 5) : run4 a b c v1 2 11 0 5 ok0 ok1 ok2 = true := by kernel_rfl
theorem t2_11_5 (a b c : Int) (v1 : V) (ok0 : OkG [.i .i64 a, .i .i64 (Int.ofNat 3)] 2) (ok1 : OkG [.i .i64 b, .i .i64 (Int.ofNat 20)] 11) (ok2 : OkD [.i .i64 c, v1] 5 5) : run4 a b c v1 2 11 5 5 ok0 ok1 ok2 = true := by kernel_rfl
theorem t2_11_10 (a b c : Int) (v1 : V) (ok0 : OkG [.i .i64 a, .i .i64 (Int.ofNat 3)] 2) (ok1 : OkG [.i .i64 b, .i .i64 (Int.ofNat 20)] 11) (ok2 : OkD [.i .i64 c, v1] 10 2) : run4 a b c v1 2 11 10 2 ok0 ok1 ok2 = true := by kernel_rfl
theorem t2_12_0 (a b c : Int) (v1 : V) (ok0 : OkG [.i .i64 a, .i .i64 (Int.ofNat 3)] 2) (ok1 : OkG [.i .i64 b, .i .i64 (Int.ofNat 20)] 12) (ok2 : OkD [.i .i64 c, v1] 0 5) : run4 a b c v1 2 12 0 5 ok0 ok1 ok2 = true := by kernel_rfl
end Go.Proofs.YtjaammiblfndaaaGreatDoor
