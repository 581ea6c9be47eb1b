/- A part of the proof: contracts of functions, over the abstract machine. -/
import Derived.Test.YtjaammiblfndaaaGreatDoorFzB
import Derived.KernelRfl
set_option linter.unusedVariables false
set_option linter.unusedSimpArgs false
set_option linter.all false
/- Runs of a law. -/
namespace Go.Proofs.YtjaammiblfndaaaGreatDoor
open Ram Go
set_option maxRecDepth 1000000
theorem b0_t (a : Int) (ok0 : OkG [.i .i64 a, .i .i64 (Int.ofNat 50)] 0) : run6 a true 0 ok0 = true := by kernel_rfl
theorem b0_f (a : Int) (ok0 : OkG [.i .i64 a, .i .i64 (Int.ofNat 50)] 0) : run6 a false 0 ok0 = true := by kernel_rfl
theorem b1_t (a : Int) (ok0 : OkG [.i .i64 a, .i .i64 (Int.ofNat 50)] 1) : run6 a true 1 ok0 = true := by kernel_rfl
theorem b1_f (a : Int) (ok0 : OkG [.i .i64 a, .i .i64 (Int.ofNat 50)] 1) : run6 a false 1 ok0 = true := by kernel_rfl
theorem b2_t (a : Int) (ok0 : OkG [.i .i64 a, .i .i64 (Int.ofNat 50)] 2) : run6 a true 2 ok0 = true := by kernel_rfl
theorem b2_f (a : Int) (ok0 : OkG [.i .i64 a, .i .i64 (Int.ofNat 50)] 2) : run6 a false 2 ok0 = true := by kernel_rfl
theorem b3_t (a : Int) (ok0 : OkG [.i .i64 a, .i .i64 (Int.ofNat 50)] 3) : run6 a true 3 ok0 = true := by kernel_rfl
theorem b3_f (a : Int) (ok0 : OkG [.i .i64 a, .i .i64 (Int.ofNat 50)] 3) : run6 a false 3 ok0 = true := by kernel_rfl
theorem b4_t (a : Int) (ok0 : OkG [.i .i64 a, .i .i64 (Int.ofNat 50)] 4) : run6 a true 4 ok0 = true := by kernel_rfl
theorem b4_f (a : Int) (ok0 : OkG [.i .i64 a, .i .i64 (Int.ofNat 50)] 4) : run6 a false 4 ok0 = true := by kernel_rfl
end Go.Proofs.YtjaammiblfndaaaGreatDoor
