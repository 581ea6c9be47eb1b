/- A part of the proof: contracts of functions, over the abstract machine. -/
import Derived.Test.YtjaammiblfndaaaGreatEzC
import Derived.KernelRfl
set_option linter.unusedVariables false
set_option linter.unusedSimpArgs false
set_option linter.all false
/- Runs of a law. -/
namespace Go.Proofs.YtjaammiblfndaaaGreat
open Ram Go
set_option maxRecDepth 1000000
theorem d0 (a b : Int) (ok0 : OkD [.i .i64 b, .i .i64 1000] 0 25) (ok1 : OkG [.i .i64 a, .i .i64 4] 3) : run5b a b 0 25 3 ok0 ok1 = true := by kernel_rfl
theorem d1 (a b : Int) (ok0 : OkD [.i .i64 b, .i .i64 1000] 25 25) (ok1 : OkG [.i .i64 a, .i .i64 4] 3) : run5b a b 25 25 3 ok0 ok1 = true := by kernel_rfl
theorem d2 (a b : Int) (ok0 : OkD [.i .i64 b, .i .i64 1000] 50 25) (ok1 : OkG [.i .i64 a, .i .i64 4] 3) : run5b a b 50 25 3 ok0 ok1 = true := by kernel_rfl
theorem d3 (a b : Int) (ok0 : OkD [.i .i64 b, .i .i64 1000] 75 25) (ok1 : OkG [.i .i64 a, .i .i64 4] 3) : run5b a b 75 25 3 ok0 ok1 = true := by kernel_rfl
end Go.Proofs.YtjaammiblfndaaaGreat
