/- A part of the proof: contracts of functions, over the abstract machine. -/
import Derived.Test.YtjaammiblfndaaaGreatDoorFzB
import Derived.KernelRfl
set_option linter.unusedVariables false
set_option linter.unusedSimpArgs false
set_option linter.all false
/- Runs of a law. -/
namespace Go.Proofs.YtjaammiblfndaaaGreatDoor
open Ram Go
set_option maxRecDepth 1000000
theorem b5_t (a : Int) (ok0 : OkG [.i .i64 a, .i .i64 (Int.ofNat 50)] 5) : run6 a true 5 ok0 = true := by kernel_rfl
theorem b5_f (a : Int) (ok0 : OkG [.i .i64 a, .i .i64 (Int.ofNat 50)] 5) : run6 a false 5 ok0 = true := by kernel_rfl
theorem b6_t (a : Int) (ok0 : OkG [.i .i64 a, .i .i64 (Int.ofNat 50)] 6) : run6 a true 6 ok0 = true := by kernel_rfl
theorem b6_f (a : Int) (ok0 : OkG [.i .i64 a, .i .i64 (Int.ofNat 50)] 6) : run6 a false 6 ok0 = true := by kernel_rfl
theorem b7_t (a : Int) (ok0 : OkG [.i .i64 a, .i .i64 (Int.ofNat 50)] 7) : run6 a true 7 ok0 = true := by kernel_rfl
theorem b7_f (a : Int) (ok0 : OkG [.i .i64 a, .i .i64 (Int.ofNat 50)] 7) : run6 a false 7 ok0 = true := by kernel_rfl
theorem b8_t (a : Int) (ok0 : OkG [.i .i64 a, .i .i64 (Int.ofNat 50)] 8) : run6 a true 8 ok0 = true := by kernel_rfl
theorem b8_f (a : Int) (ok0 : OkG [.i .i64 a, .i .i64 (Int.ofNat 50)] 8) : run6 a false 8 ok0 = true := by kernel_rfl
theorem b9_t (a : Int) (ok0 : OkG [.i .i64 a, .i .i64 (Int.ofNat 50)] 9) : run6 a true 9 ok0 = true := by kernel_rfl
theorem b9_f (a : Int) (ok0 : OkG [.i .i64 a, .i .i64 (Int.ofNat 50)] 9) : run6 a false 9 ok0 = true := by kernel_rfl
end Go.Proofs.YtjaammiblfndaaaGreatDoor
