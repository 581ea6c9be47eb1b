/- A part of the proof: contracts of functions, over the abstract machine. -/
import Derived.Test.YtjaammiblfndaaaGreatEzC
import Derived.KernelRfl
set_option linter.unusedVariables false
set_option linter.unusedSimpArgs false
set_option linter.all false
/- Runs of a law. -/
namespace Go.Proofs.YtjaammiblfndaaaGreat
open Ram Go
set_option maxRecDepth 1000000
theorem d20 (a b : Int) (ok0 : OkD [.i .i64 b, .i .i64 1000] 500 25) (ok1 : OkG [.i .i64 a, .i .i64 4] 3) : run5b a b 500 25 3 ok0 ok1 = true := by kernel_rfl
theorem d21 (a b : Int) (ok0 : OkD [.i .i64 b, .i .i64 1000] 525 25) (ok1 : OkG [.i .i64 a, .i .i64 4] 3) : run5b a b 525 25 3 ok0 ok1 = true := by kernel_rfl
theorem d22 (a b : Int) (ok0 : OkD [.i .i64 b, .i .i64 1000] 550 25) (ok1 : OkG [.i .i64 a, .i .i64 4] 3) : run5b a b 550 25 3 ok0 ok1 = true := by kernel_rfl
theorem d23 (a b : Int) (ok0 : OkD [.i .i64 b, .i .i64 1000] 575 25) (ok1 : OkG [.i .i64 a, .i .i64 4] 3) : run5b a b 575 25 3 ok0 ok1 = true := by kernel_rfl
end Go.Proofs.YtjaammiblfndaaaGreat
