/- A part of the proof: contracts of functions, over the abstract machine. -/
import Derived.Test.YtjaammiblfndaaaGreatEzC
import Derived.KernelRfl
set_option linter.unusedVariables false
set_option linter.unusedSimpArgs false
set_option linter.all false
/- Runs of a law. -/
namespace Go.Proofs.YtjaammiblfndaaaGreat
open Ram Go
set_option maxRecDepth 1000000
theorem d16 (a b : Int) (ok0 : OkD [.i .i64 b, .i .i64 1000] 400 25) (ok1 : OkG [.i .i64 a, .i .i64 4] 3) : run5b a b 400 25 3 ok0 ok1 = true := by kernel_rfl
theorem d17 (a b : Int) (ok0 : OkD [.i .i64 b, .i .i64 1000] 425 25) (ok1 : OkG [.i .i64 a, .i .i64 4] 3) : run5b a b 425 25 3 ok0 ok1 = true := by kernel_rfl
theorem d18 (a b : Int) (ok0 : OkD [.i .i64 b, .i .i64 1000] 450 25) (ok1 : OkG [.i .i64 a, .i .i64 4] 3) : run5b a b 450 25 3 ok0 ok1 = true := by kernel_rfl
theorem d19 (a b : Int) (ok0 : OkD [.i .i64 b, .i .i64 1000] 475 25) (ok1 : OkG [.i .i64 a, .i .i64 4] 3) : run5b a b 475 25 3 ok0 ok1 = true := by kernel_rfl
end Go.Proofs.YtjaammiblfndaaaGreat
