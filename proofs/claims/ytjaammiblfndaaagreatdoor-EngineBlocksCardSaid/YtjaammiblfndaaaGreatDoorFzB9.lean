/- A part of the proof: contracts of functions, over the abstract machine. -/
import Derived.Test.YtjaammiblfndaaaGreatDoorFzB
import Derived.KernelRfl
set_option linter.unusedVariables false
set_option linter.unusedSimpArgs false
set_option linter.all false
/- Runs of a law. -/
namespace Go.Proofs.YtjaammiblfndaaaGreatDoor
open Ram Go
set_option maxRecDepth 1000000
theorem b45_t (a : Int) (ok0 : OkG [.i .i64 a, .i .i64 (Int.ofNat 50)] 45) : run6 a true 45 ok0 = true := by kernel_rfl
theorem b45_f (a : Int) (ok0 : OkG [.i .i64 a, .i .i64 (Int.ofNat 50)] 45) : run6 a false 45 ok0 = true := by kernel_rfl
theorem b46_t (a : Int) (ok0 : OkG [.i .i64 a, .i .i64 (Int.ofNat 50)] 46) : run6 a true 46 ok0 = true := by kernel_rfl
theorem b46_f (a : Int) (ok0 : OkG [.i .i64 a, .i .i64 (Int.ofNat 50)] 46) : run6 a false 46 ok0 = true := by kernel_rfl
theorem b47_t (a : Int) (ok0 : OkG [.i .i64 a, .i .i64 (Int.ofNat 50)] 47) : run6 a true 47 ok0 = true := by kernel_rfl
theorem b47_f (a : Int) (ok0 : OkG [.i .i64 a, .i .i64 (Int.ofNat 50)] 47) : run6 a false 47 ok0 = true := by kernel_rfl
theorem b48_t (a : Int) (ok0 : OkG [.i .i64 a, .i .i64 (Int.ofNat 50)] 48) : run6 a true 48 ok0 = true := by kernel_rfl
theorem b48_f (a : Int) (ok0 : OkG [.i .i64 a, .i .i64 (Int.ofNat 50)] 48) : run6 a false 48 ok0 = true := by kernel_rfl
theorem b49_t (a : Int) (ok0 : OkG [.i .i64 a, .i .i64 (Int.ofNat 50)] 49) : run6 a true 49 ok0 = true := by kernel_rfl
theorem b49_f (a : Int) (ok0 : OkG [.i .i64 a, .i .i64 (Int.ofNat 50)] 49) : run6 a false 49 ok0 = true := by kernel_rfl
end Go.Proofs.YtjaammiblfndaaaGreatDoor
