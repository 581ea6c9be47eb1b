/- A part of the proof: contracts of functions, over the abstract machine. -/
import Derived.Test.YtjaammiblfndaaaGreatDoorFzB
import Derived.KernelRfl
set_option linter.unusedVariables false
set_option linter.unusedSimpArgs false
set_option linter.all false
/- Runs of a law. -/
namespace Go.Proofs.YtjaammiblfndaaaGreatDoor
open Ram Go
set_option maxRecDepth 1000000
theorem b35_t (a : Int) (ok0 : OkG [.i .i64 a, .i .i64 (Int.ofNat 50)] 35) : run6 a true 35 ok0 = true := by kernel_rfl
theorem b35_f (a : Int) (ok0 : OkG [.i .i64 a, .i .i64 (Int.ofNat 50)] 35) : run6 a false 35 ok0 = true := by kernel_rfl
theorem b36_t (a : Int) (ok0 : OkG [.i .i64 a, .i .i64 (Int.ofNat 50)] 36) : run6 a true 36 ok0 = true := by kernel_rfl
theorem b36_f (a : Int) (ok0 : OkG [.i .i64 a, .i .i64 (Int.ofNat 50)] 36) : run6 a false 36 ok0 = true := by kernel_rfl
theorem b37_t (a : Int) (ok0 : OkG [.i .i64 a, .i .i64 (Int.ofNat 50)] 37) : run6 a true 37 ok0 = true := by kernel_rfl
theorem b37_f (a : Int) (ok0 : OkG [.i .i64 a, .i .i64 (Int.ofNat 50)] 37) : run6 a false 37 ok0 = true := by kernel_rfl
theorem b38_t (a : Int) (ok0 : OkG [.i .i64 a, .i .i64 (Int.ofNat 50)] 38) : run6 a true 38 ok0 = true := by kernel_rfl
theorem b38_f (a : Int) (ok0 : OkG [.i .i64 a, .i .i64 (Int.ofNat 50)] 38) : run6 a false 38 ok0 = true := by kernel_rfl
theorem b39_t (a : Int) (ok0 : OkG [.i .i64 a, .i .i64 (Int.ofNat 50)] 39) : run6 a true 39 ok0 = true := by kernel_rfl
theorem b39_f (a : Int) (ok0 : OkG [.i .i64 a, .i .i64 (Int.ofNat 50)] 39) : run6 a false 39 ok0 = true := by kernel_rfl
end Go.Proofs.YtjaammiblfndaaaGreatDoor
