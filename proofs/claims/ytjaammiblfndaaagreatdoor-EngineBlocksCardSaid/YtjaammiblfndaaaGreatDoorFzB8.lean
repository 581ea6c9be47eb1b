/- A part of the proof: contracts of functions, over the abstract machine. -/
import Derived.Test.YtjaammiblfndaaaGreatDoorFzB
import Derived.KernelRfl
set_option linter.unusedVariables false
set_option linter.unusedSimpArgs false
set_option linter.all false
/- Runs of a law. -/
namespace Go.Proofs.YtjaammiblfndaaaGreatDoor
open Ram Go
set_option maxRecDepth 1000000
theorem b40_t (a : Int) (ok0 : OkG [.i .i64 a, .i .i64 (Int.ofNat 50)] 40) : run6 a true 40 ok0 = true := by kernel_rfl
theorem b40_f (a : Int) (ok0 : OkG [.i .i64 a, .i .i64 (Int.ofNat 50)] 40) : run6 a false 40 ok0 = true := by kernel_rfl
theorem b41_t (a : Int) (ok0 : OkG [.i .i64 a, .i .i64 (Int.ofNat 50)] 41) : run6 a true 41 ok0 = true := by kernel_rfl
theorem b41_f (a : Int) (ok0 : OkG [.i .i64 a, .i .i64 (Int.ofNat 50)] 41) : run6 a false 41 ok0 = true := by kernel_rfl
theorem b42_t (a : Int) (ok0 : OkG [.i .i64 a, .i .i64 (Int.ofNat 50)] 42) : run6 a true 42 ok0 = true := by kernel_rfl
theorem b42_f (a : Int) (ok0 : OkG [.i .i64 a, .i .i64 (Int.ofNat 50)] 42) : run6 a false 42 ok0 = true := by kernel_rfl
theorem b43_t (a : Int) (ok0 : OkG [.i .i64 a, .i .i64 (Int.ofNat 50)] 43) : run6 a true 43 ok0 = true := by kernel_rfl
theorem b43_f (a : Int) (ok0 : OkG [.i .i64 a, .i .i64 (Int.ofNat 50)] 43) : run6 a false 43 ok0 = true := by kernel_rfl
theorem b44_t (a : Int) (ok0 : OkG [.i .i64 a, .i .i64 (Int.ofNat 50)] 44) : run6 a true 44 ok0 = true := by kernel_rfl
theorem b44_f (a : Int) (ok0 : OkG [.i .i64 a, .i .i64 (Int.ofNat 50)] 44) : run6 a false 44 ok0 = true := by kernel_rfl
end Go.Proofs.YtjaammiblfndaaaGreatDoor
