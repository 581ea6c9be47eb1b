/- A part of the proof: contracts of functions, over the abstract machine. -/
import Derived.Test.YtjaammiblfndaaaGreatDoorFzB
import Derived.KernelRfl
set_option linter.unusedVariables false
set_option linter.unusedSimpArgs false
set_option linter.all false
/- Runs of a law. -/
namespace Go.Proofs.YtjaammiblfndaaaGreatDoor
open Ram Go
set_option maxRecDepth 1000000
theorem b30_t (a : Int) (ok0 : OkG [.i .i64 a, .i .i64 (Int.ofNat 50)] 30) : run6 a true 30 ok0 = true := by kernel_rfl
theorem b30_f (a : Int) (ok0 : OkG [.i .i64 a, .i .i64 (Int.ofNat 50)] 30) : run6 a false 30 ok0 = true := by kernel_rfl
theorem b31_t (a : Int) (ok0 : OkG [.i .i64 a, .i .i64 (Int.ofNat 50)] 31) : run6 a true 31 ok0 = true := by kernel_rfl
theorem b31_f (a : Int) (ok0 : OkG [.i .i64 a, .i .i64 (Int.ofNat 50)] 31) : run6 a false 31 ok0 = true := by kernel_rfl
theorem b32_t (a : Int) (ok0 : OkG [.i .i64 a, .i .i64 (Int.ofNat 50)] 32) : run6 a true 32 ok0 = true := by kernel_rfl
theorem b32_f (a : Int) (ok0 : OkG [.i .i64 a, .i .i64 (Int.ofNat 50)] 32) : run6 a false 32 ok0 = true := by kernel_rfl
theorem b33_t (a : Int) (ok0 : OkG [.i .i64 a, .i .i64 (Int.ofNat 50)] 33) : run6 a true 33 ok0 = true := by kernel_rfl
theorem b33_f (a : Int) (ok0 : OkG [.i .i64 a, .i .i64 (Int.ofNat 50)] 33) : run6 a false 33 ok0 = true := by kernel_rfl
theorem b34_t (a : Int) (ok0 : OkG [.i .i64 a, .i .i64 (Int.ofNat 50)] 34) : run6 a true 34 ok0 = true := by kernel_rfl
theorem b34_f (a : Int) (ok0 : OkG [.i .i64 a, .i .i64 (Int.ofNat 50)] 34) : run6 a false 34 ok0 = true := by kernel_rfl
end Go.Proofs.YtjaammiblfndaaaGreatDoor
