/- A part of the proof: contracts of functions, over the abstract machine. -/
import Derived.Test.YtjaammiblfndaaaGreatEzC
import Derived.KernelRfl
set_option linter.unusedVariables false
set_option linter.unusedSimpArgs false
set_option linter.all false
/- Runs of a law. -/
namespace Go.Proofs.YtjaammiblfndaaaGreat
open Ram Go
set_option maxRecDepth 1000000
theorem d28 (a b : Int) (ok0 : OkD [.i .i64 b, .i .i64 1000] 700 25) (ok1 : OkG [.i .i64 a, .i .i64 4] 3) : run5b a b 700 25 3 ok0 ok1 = true := by kernel_rfl
theorem d29 (a b : Int) (ok0 : OkD [.i .i64 b, .i .i64 1000] 725 25) (ok1 : OkG [.i .i64 a, .i .i64 4] 3) : run5b a b 725 25 3 ok0 ok1 = true := by kernel_rfl
theorem d30 (a b : Int) (ok0 : OkD [.i .i64 b, .i .i64 1000] 750 25) (ok1 : OkG [.i .i64 a, .i .i64 4] 3) : run5b a b 750 25 3 ok0 ok1 = true := by kernel_rfl
theorem d31 (a b : Int) (ok0 : OkD [.i .i64 b, .i .i64 1000] 775 25) (ok1 : OkG [.i .i64 a, .i .i64 4] 3) : run5b a b 775 25 3 ok0 ok1 = true := by kernel_rfl
end Go.Proofs.YtjaammiblfndaaaGreat
