/- A part of the proof: contracts of functions, over the abstract machine. -/
import Derived.Test.YtjaammiblfndaaaGreatDoorFzB
import Derived.KernelRfl
set_option linter.unusedVariables false
set_option linter.unusedSimpArgs false
set_option linter.all false
/- Runs of a law. -/
namespace Go.Proofs.YtjaammiblfndaaaGreatDoor
open Ram Go
set_option maxRecDepth 1000000
theorem b15_t (a : Int) (ok0 : OkG [.i .i64 a, .i .i64 (Int.ofNat 50)] 15) : run6 a true 15 ok0 = true := by kernel_rfl
theorem b15_f (a : Int) (ok0 : OkG [.i .i64 a, .i .i64 (Int.ofNat 50)] 15) : run6 a false 15 ok0 = true := by kernel_rfl
theorem b16_t (a : Int) (ok0 : OkG [.i .i64 a, .i .i64 (Int.ofNat 50)] 16) : run6 a true 16 ok0 = true := by kernel_rfl
theorem b16_f (a : Int) (ok0 : OkG [.i .i64 a, .i .i64 (Int.ofNat 50)] 16) : run6 a false 16 ok0 = true := by kernel_rfl
theorem b17_t (a : Int) (ok0 : OkG [.i .i64 a, .i .i64 (Int.ofNat 50)] 17) : run6 a true 17 ok0 = true := by kernel_rfl
theorem b17_f (a : Int) (ok0 : OkG [.i .i64 a, .i .i64 (Int.ofNat 50)] 17) : run6 a false 17 ok0 = true := by kernel_rfl
theorem b18_t (a : Int) (ok0 : OkG [.i .i64 a, .i .i64 (Int.ofNat 50)] 18) : run6 a true 18 ok0 = true := by kernel_rfl
theorem b18_f (a : Int) (ok0 : OkG [.i .i64 a, .i .i64 (Int.ofNat 50)] 18) : run6 a false 18 ok0 = true := by kernel_rfl
theorem b19_t (a : Int) (ok0 : OkG [.i .i64 a, .i .i64 (Int.ofNat 50)] 19) : run6 a true 19 ok0 = true := by kernel_rfl
theorem b19_f (a : Int) (ok0 : OkG [.i .i64 a, .i .i64 (Int.ofNat 50)] 19) : run6 a false 19 ok0 = true := by kernel_rfl
end Go.Proofs.YtjaammiblfndaaaGreatDoor
