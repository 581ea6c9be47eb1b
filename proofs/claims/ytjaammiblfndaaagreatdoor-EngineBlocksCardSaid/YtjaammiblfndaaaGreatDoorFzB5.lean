/- A part of the proof: contracts of functions, over the abstract machine. -/
import Derived.Test.YtjaammiblfndaaaGreatDoorFzB
import Derived.KernelRfl
set_option linter.unusedVariables false
set_option linter.unusedSimpArgs false
set_option linter.all false
/- Runs of a law. -/
namespace Go.Proofs.YtjaammiblfndaaaGreatDoor
open Ram Go
set_option maxRecDepth 1000000
theorem b25_t (a : Int) (ok0 : OkG [.i .i64 a, .i .i64 (Int.ofNat 50)] 25) : run6 a true 25 ok0 = true := by kernel_rfl
theorem b25_f (a : Int) (ok0 : OkG [.i .i64 a, .i .i64 (Int.ofNat 50)] 25) : run6 a false 25 ok0 = true := by kernel_rfl
theorem b26_t (a : Int) (ok0 : OkG [.i .i64 a, .i .i64 (Int.ofNat 50)] 26) : run6 a true 26 ok0 = true := by kernel_rfl
theorem b26_f (a : Int) (ok0 : OkG [.i .i64 a, .i .i64 (Int.ofNat 50)] 26) : run6 a false 26 ok0 = true := by kernel_rfl
theorem b27_t (a : Int) (ok0 : OkG [.i .i64 a, .i .i64 (Int.ofNat 50)] 27) : run6 a true 27 ok0 = true := by kernel_rfl
theorem b27_f (a : Int) (ok0 : OkG [.i .i64 a, .i .i64 (Int.ofNat 50)] 27) : run6 a false 27 ok0 = true := by kernel_rfl
theorem b28_t (a : Int) (ok0 : OkG [.i .i64 a, .i .i64 (Int.ofNat 50)] 28) : run6 a true 28 ok0 = true := by kernel_rfl
theorem b28_f (a : Int) (ok0 : OkG [.i .i64 a, .i .i64 (Int.ofNat 50)] 28) : run6 a false 28 ok0 = true := by kernel_rfl
theorem b29_t (a : Int) (ok0 : OkG [.i .i64 a, .i .i64 (Int.ofNat 50)] 29) : run6 a true 29 ok0 = true := by kernel_rfl
theorem b29_f (a : Int) (ok0 : OkG [.i .i64 a, .i .i64 (Int.ofNat 50)] 29) : run6 a false 29 ok0 = true := by kernel_rfl
end Go.Proofs.YtjaammiblfndaaaGreatDoor
