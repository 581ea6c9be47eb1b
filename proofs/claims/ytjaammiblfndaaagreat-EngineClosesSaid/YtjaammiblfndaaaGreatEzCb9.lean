/- A part of the proof: contracts of functions, over the abstract machine. -/
import Derived.Test.YtjaammiblfndaaaGreatEzC
import Derived.KernelRfl
set_option linter.unusedVariables false
set_option linter.unusedSimpArgs false
set_option linter.all false
/- Runs of a law. -/
namespace Go.Proofs.YtjaammiblfndaaaGreat
open Ram Go
set_option maxRecDepth 1000000
theorem d36 (a b : Int) (ok0 : OkD [.i .i64 b, .i .i64 1000] 900 25) (ok1 : OkG [.i .i64 a, .i .i64 4] 3) : run5b a b 900 25 3 ok0 ok1 = true := by kernel_rfl
theorem d37 (a b : Int) (ok0 : OkD [.i .i64 b, .i .i64 1000] 925 25) (ok1 : OkG [.i .i64 a, .i .i64 4] 3) : run5b a b 925 25 3 ok0 ok1 = true := by kernel_rfl
theorem d38 (a b : Int) (ok0 : OkD [.i .i64 b, .i .i64 1000] 950 25) (ok1 : OkG [.i .i64 a, .i .i64 4] 3) : run5b a b 950 25 3 ok0 ok1 = true := by kernel_rfl
theorem d39 (a b : Int) (ok0 : OkD [.i .i64 b, .i .i64 1000] 975 25) (ok1 : OkG [.i .i64 a, .i .i64 4] 3) : run5b a b 975 25 3 ok0 ok1 = true := by kernel_rfl
end Go.Proofs.YtjaammiblfndaaaGreat
