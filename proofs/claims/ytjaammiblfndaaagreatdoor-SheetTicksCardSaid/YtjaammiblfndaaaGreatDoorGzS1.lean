/- A part of the proof: contracts of functions, over the abstract machine. -/
import Derived.Test.YtjaammiblfndaaaGreatDoorGzS
import Derived.KernelRfl
set_option linter.unusedVariables false
set_option linter.unusedSimpArgs false
set_option linter.all false
/- Runs of a law. -/
namespace Go.Proofs.YtjaammiblfndaaaGreatDoor
open Ram Go
set_option maxRecDepth 1000000
theorem tk7 (a : Int) (ok0 : OkG [.i .i64 a, .i .i64 (Int.ofNat 14)] 7) : run10 a 7 ok0 = true := by kernel_rfl
theorem tk8 (a : Int) (ok0 : OkG [.i .i64 a, .i .i64 (Int.ofNat 14)] 8) : run10 a 8 ok0 = true := by kernel_rfl
theorem tk9 (a : Int) (ok0 : OkG [.i .i64 a, .i .i64 (Int.ofNat 14)] 9) : run10 a 9 ok0 = true := by kernel_rfl
theorem tk10 (a : Int) (ok0 : OkG [.i .i64 a, .i .i64 (Int.ofNat 14)] 10) : run10 a 10 ok0 = true := by kernel_rfl
theorem tk11 (a : Int) (ok0 : OkG [.i .i64 a, .i .i64 (Int.ofNat 14)] 11) : run10 a 11 ok0 = true := by kernel_rfl
theorem tk12 (a : Int) (ok0 : OkG [.i .i64 a, .i .i64 (Int.ofNat 14)] 12) : run10 a 12 ok0 = true := by kernel_rfl
theorem tk13 (a : Int) (ok0 : OkG [.i .i64 a, .i .i64 (Int.ofNat 14)] 13) : run10 a 13 ok0 = true := by kernel_rfl
end Go.Proofs.YtjaammiblfndaaaGreatDoor
