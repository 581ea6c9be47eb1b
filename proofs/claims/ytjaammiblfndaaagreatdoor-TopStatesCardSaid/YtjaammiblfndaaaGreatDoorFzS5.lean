/- A part of the proof: contracts of functions, over the abstract machine. -/
import Derived.Test.YtjaammiblfndaaaGreatDoorFzS
import Derived.KernelRfl
set_option linter.unusedVariables false
set_option linter.unusedSimpArgs false
set_option linter.all false
/- Runs of a law. -/
namespace Go.Proofs.YtjaammiblfndaaaGreatDoor
open Ram Go
set_option maxRecDepth 1000000
theorem s16_0 (a b : Int) (ok0 : OkG [.i .i64 a, .i .i64 (Int.ofNat 20)] 16) (ok1 : OkD [.i .i64 b, .i .i64 (Int.ofNat 16)] 0 2) : run11 a b 16 0 2 ok0 ok1 = true := by kernel_rfl
theorem s16_1 (a b : Int) (ok0 : OkG [.i .i64 a, .i .i64 (Int.ofNat 20)] 16) (ok1 : OkD [.i .i64 b, .i .i64 (Int.ofNat 16)] 2 2) : run11 a b 16 2 2 ok0 ok1 = true := by kernel_rfl
theorem s16_2 (a b : Int) (ok0 : OkG [.i .i64 a, .i .i64 (Int.ofNat 20)] 16) (ok1 : OkD [.i .i64 b, .i .i64 (Int.ofNat 16)] 4 2) : run11 a b 16 4 2 ok0 ok1 = true := by kernel_rfl
theorem s16_3 (a b : Int) (ok0 : OkG [.i .i64 a, .i .i64 (Int.ofNat 20)] 16) (ok1 : OkD [.i .i64 b, .i .i64 (Int.ofNat 16)] 6 2) : run11 a b 16 6 2 ok0 ok1 = true := by kernel_rfl
theorem s16_4 (a b : Int) (ok0 : OkG [.i .i64 a, .i .i64 (Int.ofNat 20)] 16) (ok1 : OkD [.i .i64 b, .i .i64 (Int.ofNat 16)] 8 2) : run11 a b 16 8 2 ok0 ok1 = true := by kernel_rfl
theorem s16_5 (a b : Int) (ok0 : OkG [.i .i64 a, .i .i64 (Int.ofNat 20)] 16) (ok1 : OkD [.i .i64 b, .i .i64 (Int.ofNat 16)] 10 2) : run11 a b 16 10 2 ok0 ok1 = true := by kernel_rfl
theorem s16_6 (a b : Int) (ok0 : OkG [.i .i64 a, .i .i64 (Int.ofNat 20)] 16) (ok1 : OkD [.i .i64 b, .i .i64 (Int.ofNat 16)] 12 2) : run11 a b 16 12 2 ok0 ok1 = true := by kernel_rfl
theorem s16_7 (a b : Int) (ok0 : OkG [.i .i64 a, .i .i64 (Int.ofNat 20)] 16) (ok1 : OkD [.i .i64 b, .i .i64 (Int.ofNat 16)] 14 2) : run11 a b 16 14 2 ok0 ok1 = true := by kernel_rfl
end Go.Proofs.YtjaammiblfndaaaGreatDoor
