/- A part of the proof: contracts of functions, over the abstract machine. -/
import Derived.Test.YtjaammiblfndaaaGreatDoorFzS
import Derived.KernelRfl
set_option linter.unusedVariables false
set_option linter.unusedSimpArgs false
set_option linter.all false
/- Runs of a law. -/
namespace Go.Proofs.YtjaammiblfndaaaGreatDoor
open Ram Go
set_option maxRecDepth 1000000
theorem s12_0 (a b : Int) (ok0 : OkG [.i .i64 a, .i .i64 (Int.ofNat 20)] 12) (ok1 : OkD [.i .i64 b, .i .i64 (Int.ofNat 16)] 0 2) : run11 a b 12 0 2 ok0 ok1 = true := by kernel_rfl
theorem s12_1 (a b : Int) (ok0 : OkG [.i .i64 a, .i .i64 (Int.ofNat 20)] 12) (ok1 : OkD [.i .i64 b, .i .i64 (Int.ofNat 16)] 2 2) : run11 a b 12 2 2 ok0 ok1 = true := by kernel_rfl
theorem s12_2 (a b : Int) (ok0 : OkG [.i .i64 a, .i .i64 (Int.ofNat 20)] 12) (ok1 : OkD [.i .i64 b, .i .i64 (Int.ofNat 16)] 4 2) : run11 a b 12 4 2 ok0 ok1 = true := by kernel_rfl
theorem s12_3 (a b : Int) (ok0 : OkG [.i .i64 a, .i .i64 (Int.ofNat 20)] 12) (ok1 : OkD [.i .i64 b, .i .i64 (Int.ofNat 16)] 6 2) : run11 a b 12 6 2 ok0 ok1 = true := by kernel_rfl
theorem s12_4 (a b : Int) (ok0 : OkG [.i .i64 a, .i .i64 (Int.ofNat 20)] 12) (ok1 : OkD [.i .i64 b, .i .i64 (Int.ofNat 16)] 8 2) : run11 a b 12 8 2 ok0 ok1 = true := by kernel_rfl
theorem s12_5 (a b : Int) (ok0 : OkG [.i .i64 a, .i .i64 (Int.ofNat 20)] 12) (ok1 : OkD [.i .i64 b, .i .i64 (Int.ofNat 16)] 10 2) : run11 a b 12 10 2 ok0 ok1 = true := by kernel_rfl
theorem s12_6 (a b : Int) (ok0 : OkG [.i .i64 a, .i .i64 (Int.ofNat 20)] 12) (ok1 : OkD [.i .i64 b, .i .i64 (Int.ofNat 16)] 12 2) : run11 a b 12 12 2 ok0 ok1 = true := by kernel_rfl
theorem s12_7 (a b : Int) (ok0 : OkG [.i .i64 a, .i .i64 (Int.ofNat 20)] 12) (ok1 : OkD [.i .i64 b, .i .i64 (Int.ofNat 16)] 14 2) : run11 a b 12 14 2 ok0 ok1 = true := by kernel_rfl
theorem s13_0 (a b : Int) (ok0 : OkG [.i .i64 a, .i .i64 (Int.ofNat 20)] 13) (ok1 : OkD [.i .i64 b, .i .i64 (Int.ofNat 16)] 0 2) : run11 a b 13 0 2 ok0 ok1 = true := by kernel_rfl
theorem s13_1 (a b : Int) (ok0 : OkG [.i .i64 a, .i .i64 (Int.ofNat 20)] 13) (ok1 : OkD [.i .i64 b, .i .i64 (Int.ofNat 16)] 2 2) : run11 a b 13 2 2 ok0 ok1 = true := by kernel_rfl
theorem s13_2 (a b : Int) (ok0 : OkG [.i .i64 a, .i .i64 (Int.ofNat 20)] 13) (ok1 : OkD [.i .i64 b, .i .i64 (Int.ofNat 16)] 4 2) : run11 a b 13 4 2 ok0 ok1 = true := by kernel_rfl
theorem s13_3 (a b : Int) (ok0 : OkG [.i .i64 a, .i .i64 (Int.ofNat 20)] 13) (ok1 : OkD [.i .i64 b, .i .i64 (Int.ofNat 16)] 6 2) : run11 a b 13 6 2 ok0 ok1 = true := by kernel_rfl
theorem s13_4 (a b : Int) (ok0 : OkG [.i .i64 a, .i .i64 (Int.ofNat 20)] 13) (ok1 : OkD [.i .i64 b, .i .i64 (Int.ofNat 16)] 8 2) : run11 a b 13 8 2 ok0 ok1 = true := by kernel_rfl
theorem s13_5 (a b : Int) (ok0 : OkG [.i .i64 a, .i .i64 (Int.ofNat 20)] 13) (ok1 : OkD [.i .i64 b, .i .i64 (Int.ofNat 16)] 10 2) : run11 a b 13 10 2 ok0 ok1 = true := by kernel_rfl
theorem s13_6 (a b : Int) (ok0 : OkG [.i .i64 a, .i .i64 (Int.ofNat 20)] 13) (ok1 : OkD [.i .i64 b, .i .i64 (Int.ofNat 16)] 12 2) : run11 a b 13 12 2 ok0 ok1 = true := by kernel_rfl
theorem s13_7 (a b : Int) (ok0 : OkG [.i .i64 a, .i .i64 (Int.ofNat 20)] 13) (ok1 : OkD [.i .i64 b, .i .i64 (Int.ofNat 16)] 14 2) : run11 a b 13 14 2 ok0 ok1 = true := by kernel_rfl
end Go.Proofs.YtjaammiblfndaaaGreatDoor
