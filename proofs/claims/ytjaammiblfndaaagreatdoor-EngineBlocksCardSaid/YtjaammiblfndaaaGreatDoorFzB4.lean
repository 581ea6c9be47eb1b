/- A part of the proof: contracts of functions, over the abstract machine. -/
import Derived.Test.YtjaammiblfndaaaGreatDoorFzB
import Derived.KernelRfl
set_option linter.unusedVariables false
set_option linter.unusedSimpArgs false
set_option linter.all false
/- Runs of a law. -/
namespace Go.Proofs.YtjaammiblfndaaaGreatDoor
open Ram Go
set_option maxRecDepth 1000000
theorem b20_t (a : Int) (ok0 : OkG [.i .i64 a, .i .i64 (Int.ofNat 50)] 20) : run6 a true 20 ok0 = true := by kernel_rfl
theorem b20_f (a : Int) (ok0 : OkG [.i .i64 a, .i .i64 (Int.ofNat 50)] 20) : run6 a false 20 ok0 = true := by kernel_rfl
theorem b21_t (a : Int) (ok0 : OkG [.i .i64 a, .i .i64 (Int.ofNat 50)] 21) : run6 a true 21 ok0 = true := by kernel_rfl
theorem b21_f (a : Int) (ok0 : OkG [.i .i64 a, .i .i64 (Int.ofNat 50)] 21) : run6 a false 21 ok0 = true := by kernel_rfl
theorem b22_t (a : Int) (ok0 : OkG [.i .i64 a, .i .i64 (Int.ofNat 50)] 22) : run6 a true 22 ok0 = true := by kernel_rfl
theorem b22_f (a : Int) (ok0 : OkG [.i .i64 a, .i .i64 (Int.ofNat 50)] 22) : run6 a false 22 ok0 = true := by kernel_rfl
theorem b23_t (a : Int) (ok0 : OkG [.i .i64 a, .i .i64 (Int.ofNat 50)] 23) : run6 a true 23 ok0 = true := by kernel_rfl
theorem b23_f (a : Int) (ok0 : OkG [.i .i64 a, .i .i64 (Int.ofNat 50)] 23) : run6 a false 23 ok0 = true := by kernel_rfl
theorem b24_t (a : Int) (ok0 : OkG [.i .i64 a, .i .i64 (Int.ofNat 50)] 24) : run6 a true 24 ok0 = true := by kernel_rfl
theorem b24_f (a : Int) (ok0 : OkG [.i .i64 a, .i .i64 (Int.ofNat 50)] 24) : run6 a false 24 ok0 = true := by kernel_rfl
end Go.Proofs.YtjaammiblfndaaaGreatDoor
