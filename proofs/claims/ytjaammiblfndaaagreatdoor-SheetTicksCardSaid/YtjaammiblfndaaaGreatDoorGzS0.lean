/- A part of the proof: contracts of functions, over the abstract machine. -/
import Derived.Test.YtjaammiblfndaaaGreatDoorGzS
import Derived.KernelRfl
set_option linter.unusedVariables false
set_option linter.unusedSimpArgs false
set_option linter.all false
/- Runs of a law. -/
namespace Go.Proofs.YtjaammiblfndaaaGreatDoor
open Ram Go
set_option maxRecDepth 1000000
theorem tk0 (a : Int) (ok0 : OkG [.i .i64 a, .i .i64 (Int.ofNat 14)] 0) : run10 a 0 ok0 = true := by kernel_rfl
theorem tk1 (a : Int) (ok0 : OkG [.i .i64 a, .i .i64 (Int.ofNat 14)] 1) : run10 a 1 ok0 = true := by kernel_rfl
theorem tk2 (a : Int) (ok0 : OkG [.i .i64 a, .i .i64 (Int.ofNat 14)] 2) : run10 a 2 ok0 = true := by kernel_rfl
theorem tk3 (a : Int) (ok0 : OkG [.i .i64 a, .i .i64 (Int.ofNat 14)] 3) : run10 a 3 ok0 = true := by kernel_rfl
theorem tk4 (a : Int) (ok0 : OkG [.i .i64 a, .i .i64 (Int.ofNat 14)] 4) : run10 a 4 ok0 = true := by kernel_rfl
theorem tk5 (a : Int) (ok0 : OkG [.i .i64 a, .i .i64 (Int.ofNat 14)] 5) : run10 a 5 ok0 = true := by kernel_rfl
theorem tk6 (a : Int) (ok0 : OkG [.i .i64 a, .i .i64 (Int.ofNat 14)] 6) : run10 a 6 ok0 = true := by kernel_rfl
end Go.Proofs.YtjaammiblfndaaaGreatDoor
