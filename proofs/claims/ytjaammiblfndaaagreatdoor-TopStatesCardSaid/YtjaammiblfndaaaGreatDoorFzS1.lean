/- A part of the proof: contracts of functions, over the abstract machine. -/
import Derived.Test.YtjaammiblfndaaaGreatDoorFzS
import Derived.KernelRfl
set_option linter.unusedVariables false
set_option linter.unusedSimpArgs false
set_option linter.all false
/- Runs of a law. -/
namespace Go.Proofs.YtjaammiblfndaaaGreatDoor
open Ram Go
set_option maxRecDepth 1000000
theorem s9_0 (a b : Int) (ok0 : OkG [.i .i64 a, .i .i64 (Int.ofNat 20)] 9) (ok1 : OkD [.i .i64 b, .i .i64 (Int.ofNat 16)] 0 2) : run11 a b 9 0 2 ok0 ok1 = true := by kernel_rfl
theorem s9_1 (a b : Int) (ok0 : OkG [.i .i64 a, .i .i64 (Int.ofNat 20)] 9) (ok1 : OkD [.i .i64 b, .i .i64 (Int.ofNat 16)] 2 2) : run11 a b 9 2 2 ok0 ok1 = true := by kernel_rfl
theorem s9_2 (a b : Int) (ok0 : OkG [.i .i64 a, .i .i64 (Int.ofNat 20)] 9) (ok1 : OkD [.i .i64 b, .i .i64 (Int.ofNat 16)] 4 2) : run11 a b 9 4 2 ok0 ok1 = true := by kernel_rfl
theorem s9_3 (a b : Int) (ok0 : OkG [.i .i64 a, .i .i64 (Int.ofNat 20)] 9) (ok1 : OkD [.i .i64 b, .i .i64 (Int.ofNat 16)] 6 2) : run11 a b 9 6 2 ok0 ok1 = true := by kernel_rfl
theorem s9_4 (a b : Int) (ok0 : OkG [.i .i64 a, .i .i64 (Int.ofNat 20)] 9) (ok1 : OkD [.i .i64 b, .i .i64 (Int.ofNat 16)] 8 2) : run11 a b 9 8 2 ok0 ok1 = true := by kernel_rfl
theorem s9_5 (a b : Int) (ok0 : OkG [.i .i64 a, .i .i64 (Int.ofNat 20)] 9) (ok1 : OkD [.i .i64 b, .i .i64 (Int.ofNat 16)] 10 2) : run11 a b 9 10 2 ok0 ok1 = true := by kernel_rfl
theorem s9_6 (a b : Int) (ok0 : OkG [.i .i64 a, .i .i64 (Int.ofNat 20)] 9) (ok1 : OkD [.i .i64 b, .i .i64 (Int.ofNat 16)] 12 2) : run11 a b 9 12 2 ok0 ok1 = true := by kernel_rfl
theorem s9_7 (a b : Int) (ok0 : OkG [.i .i64 a, .i .i64 (Int.ofNat 20)] 9) (ok1 : OkD [.i .i64 b, .i .i64 (Int.ofNat 16)] 14 2) : run11 a b 9 14 2 ok0 ok1 = true := by kernel_rfl
theorem s10_0 (a b : Int) (ok0 : OkG [.i .i64 a, .i .i64 (Int.ofNat 20)] 10) (ok1 : OkD [.i .i64 b, .i .i64 (Int.ofNat 16)] 0 2) : run11 a b 10 0 2 ok0 ok1 = true := by kernel_rfl
theorem s10_1 (a b : Int) (ok0 : OkG [.i .i64 a, .i .i64 (Int.ofNat 20)] 10) (ok1 : OkD [.i .i64 b, .i .i64 (Int.ofNat 16)] 2 2) : run11 a b 10 2 2 ok0 ok1 = true := by kernel_rfl
theorem s10_2 (a b : Int) (ok0 : OkG [.i .i64 a, .i .i64 (Int.ofNat 20)] 10) (ok1 : OkD [.i .i64 b, .i .i64 (Int.ofNat 16)] 4 2) : run11 a b 10 4 2 ok0 ok1 = true := by kernel_rfl
theorem s10_3 (a b : Int) (ok0 : OkG [.i .i64 a, .i .i64 (Int.ofNat 20)] 10) (ok1 : OkD [.i .i64 b, .i .i64 (Int.ofNat 16)] 6 2) : run11 a b 10 6 2 ok0 ok1 = true := by kernel_rfl
theorem s10_4 (a b : Int) (ok0 : OkG [.i .i64 a, .i .i64 (Int.ofNat 20)] 10) (ok1 : OkD [.i .i64 b, .i .i64 (Int.ofNat 16)] 8 2) : run11 a b 10 8 2 ok0 ok1 = true := by kernel_rfl
theorem s10_5 (a b : Int) (ok0 : OkG [.i .i64 a, .i .i64 (Int.ofNat 20)] 10) (ok1 : OkD [.i .i64 b, .i .i64 (Int.ofNat 16)] 10 2) : run11 a b 10 10 2 ok0 ok1 = true := by kernel_rfl
theorem s10_6 (a b : Int) (ok0 : OkG [.i .i64 a, .i .i64 (Int.ofNat 20)] 10) (ok1 : OkD [.i .i64 b, .i .i64 (Int.ofNat 16)] 12 2) : run11 a b 10 12 2 ok0 ok1 = true := by kernel_rfl
theorem s10_7 (a b : Int) (ok0 : OkG [.i .i64 a, .i .i64 (Int.ofNat 20)] 10) (ok1 : OkD [.i .i64 b, .i .i64 (Int.ofNat 16)] 14 2) : run11 a b 10 14 2 ok0 ok1 = true := by kernel_rfl
theorem s11_0 (a b : Int) (ok0 : OkG [.i .i64 a, .i .i64 (Int.ofNat 20)] 11) (ok1 : OkD [.i .i64 b, .i .i64 (Int.ofNat 16)] 0 2) : run11 a b 11 0 2 ok0 ok1 = true := by kernel_rfl
theorem s11_1 (a b : Int) (ok0 : OkG [.i .i64 a, .i .i64 (Int.ofNat 20)] 11) (ok1 : OkD [.i .i64 b, .i .i64 (Int.ofNat 16)] 2 2) : run11 a b 11 2 2 ok0 ok1 = true := by kernel_rfl
theorem s11_2 (a b : Int) (ok0 : OkG [.i .i64 a, .i .i64 (Int.ofNat 20)] 11) (ok1 : OkD [.i .i64 b, .i .i64 (Int.ofNat 16)] 4 2) : run11 a b 11 4 2 ok0 ok1 = true := by kernel_rfl
theorem s11_3 (a b : Int) (ok0 : OkG [.i .i64 a, .i .i64 (Int.ofNat 20)] 11) (ok1 : OkD [.i .i64 b, .i .i64 (Int.ofNat 16)] 6 2) : run11 a b 11 6 2 ok0 ok1 = true := by kernel_rfl
theorem s11_4 (a b : Int) (ok0 : OkG [.i .i64 a, .i .i64 (Int.ofNat 20)] 11) (ok1 : OkD [.i .i64 b, .i .i64 (Int.ofNat 16)] 8 2) : run11 a b 11 8 2 ok0 ok1 = true := by kernel_rfl
theorem s11_5 (a b : Int) (ok0 : OkG [.i .i64 a, .i .i64 (Int.ofNat 20)] 11) (ok1 : OkD [.i .i64 b, .i .i64 (Int.ofNat 16)] 10 2) : run11 a b 11 10 2 ok0 ok1 = true := by kernel_rfl
theorem s11_6 (a b : Int) (ok0 : OkG [.i .i64 a, .i .i64 (Int.ofNat 20)] 11) (ok1 : OkD [.i .i64 b, .i .i64 (Int.ofNat 16)] 12 2) : run11 a b 11 12 2 ok0 ok1 = true := by kernel_rfl
theorem s11_7 (a b : Int) (ok0 : OkG [.i .i64 a, .i .i64 (Int.ofNat 20)] 11) (ok1 : OkD [.i .i64 b, .i .i64 (Int.ofNat 16)] 14 2) : run11 a b 11 14 2 ok0 ok1 = true := by kernel_rfl
end Go.Proofs.YtjaammiblfndaaaGreatDoor
