/- A part of the proof: contracts of functions, over the abstract machine. -/
import Derived.Test.YtjaammiblfndaaaGreatEzC
import Derived.KernelRfl
set_option linter.unusedVariables false
set_option linter.unusedSimpArgs false
set_option linter.all false
/- Runs of a law. -/
namespace Go.Proofs.YtjaammiblfndaaaGreat
open Ram Go
set_option maxRecDepth 1000000
theorem d24 (a b : Int) (ok0 : OkD [.i .i64 b, .i .i64 1000] 600 25) (ok1 : OkG [.i .i64 a, .i .i64 4] 3) : run5b a b 600 25 3 ok0 ok1 = true := by kernel_rfl
theorem d25 (a b : Int) (ok0 : OkD [.i .i64 b, .i .i64 1000] 625 25) (ok1 : OkG [.i .i64 a, .i .i64 4] 3) : run5b a b 625 25 3 ok0 ok1 = true := by kernel_rfl
theorem d26 (a b : Int) (ok0 : OkD [.i .i64 b, .i .i64 1000] 650 25) (ok1 : OkG [.i .i64 a, .i .i64 4] 3) : run5b a b 650 25 3 ok0 ok1 = true := by kernel_rfl
theorem d27 (a b : Int) (ok0 : OkD [.i .i64 b, .i .i64 1000] 675 25) (ok1 : OkG [.i .i64 a, .i .i64 4] 3) : run5b a b 675 25 3 ok0 ok1 = true := by kernel_rfl
end Go.Proofs.YtjaammiblfndaaaGreat
