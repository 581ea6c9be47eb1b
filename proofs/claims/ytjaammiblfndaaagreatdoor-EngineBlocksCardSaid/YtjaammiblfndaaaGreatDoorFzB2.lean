/- A part of the proof: contracts of functions, over the abstract machine. -/
import Derived.Test.YtjaammiblfndaaaGreatDoorFzB
import Derived.KernelRfl
set_option linter.unusedVariables false
set_option linter.unusedSimpArgs false
set_option linter.all false
/- Runs of a law. -/
namespace Go.Proofs.YtjaammiblfndaaaGreatDoor
open Ram Go
set_option maxRecDepth 1000000
theorem b10_t (a : Int) (ok0 : OkG [.i .i64 a, .i .i64 (Int.ofNat 50)] 10) : run6 a true 10 ok0 = true := by kernel_rfl
theorem b10_f (a : Int) (ok0 : OkG [.i .i64 a, .i .i64 (Int.ofNat 50)] 10) : run6 a false 10 ok0 = true := by kernel_rfl
theorem b11_t (a : Int) (ok0 : OkG [.i .i64 a, .i .i64 (Int.ofNat 50)] 11) : run6 a true 11 ok0 = true := by kernel_rfl
theorem b11_f (a : Int) (ok0 : OkG [.i .i64 a, .i .i64 (Int.ofNat 50)] 11) : run6 a false 11 ok0 = true := by kernel_rfl
theorem b12_t (a : Int) (ok0 : OkG [.i .i64 a, .i .i64 (Int.ofNat 50)] 12) : run6 a true 12 ok0 = true := by kernel_rfl
theorem b12_f (a : Int) (ok0 : OkG [.i .i64 a, .i .i64 (Int.ofNat 50)] 12) : run6 a false 12 ok0 = true := by kernel_rfl
theorem b13_t (a : Int) (ok0 : OkG [.i .i64 a, .i .i64 (Int.ofNat 50)] 13) : run6 a true 13 ok0 = true := by kernel_rfl
theorem b13_f (a : Int) (ok0 : OkG [.i .i64 a, .i .i64 (Int.ofNat 50)] 13) : run6 a false 13 ok0 = true := by kernel_rfl
theorem b14_t (a : Int) (ok0 : OkG [.i .i64 a, .i .i64 (Int.ofNat 50)] 14) : run6 a true 14 ok0 = true := by kernel_rfl
theorem b14_f (a : Int) (ok0 : OkG [.i .i64 a, .i .i64 (Int.ofNat 50)] 14) : run6 a false 14 ok0 = true := by kernel_rfl
end Go.Proofs.YtjaammiblfndaaaGreatDoor
