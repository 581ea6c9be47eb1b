/- A part of the proof: contracts of functions, over the abstract machine. -/
import Derived.Test.YtjaammiblfndaaaGreatEzC
import Derived.KernelRfl
set_option linter.unusedVariables false
set_option linter.unusedSimpArgs false
set_option linter.all false
/- Runs of a law. -/
namespace Go.Proofs.YtjaammiblfndaaaGreat
open Ram Go
set_option maxRecDepth 1000000
theorem d12 (a b : Int) (ok0 : OkD [.i .i64 b, .i .i64 1000] 300 25) (ok1 : OkG [.i .i64 a, .i .i64 4] 3) : run5b a b 300 25 3 ok0 ok1 = true := by kernel_rfl
theorem d13 (a b : Int) (ok0 : OkD [.i .i64 b, .i .i64 1000] 325 25) (ok1 : OkG [.i .i64 a, .i .i64 4] 3) : run5b a b 325 25 3 ok0 ok1 = true := by kernel_rfl
theorem d14 (a b : Int) (ok0 : OkD [.i .i64 b, .i .i64 1000] 350 25) (ok1 : OkG [.i .i64 a, .i .i64 4] 3) : run5b a b 350 25 3 ok0 ok1 = true := by kernel_rfl
theorem d15 (a b : Int) (ok0 : OkD [.i .i64 b, .i .i64 1000] 375 25) (ok1 : OkG [.i .i64 a, .i .i64 4] 3) : run5b a b 375 25 3 ok0 ok1 = true := by kernel_rfl
end Go.Proofs.YtjaammiblfndaaaGreat
