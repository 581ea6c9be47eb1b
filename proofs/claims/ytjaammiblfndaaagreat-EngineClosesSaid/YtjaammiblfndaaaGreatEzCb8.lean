/- A part of the proof: contracts of functions, over the abstract machine. -/
import Derived.Test.YtjaammiblfndaaaGreatEzC
import Derived.KernelRfl
set_option linter.unusedVariables false
set_option linter.unusedSimpArgs false
set_option linter.all false
/- Runs of a law. -/
namespace Go.Proofs.YtjaammiblfndaaaGreat
open Ram Go
set_option maxRecDepth 1000000
theorem d32 (a b : Int) (ok0 : OkD [.i .i64 b, .i .i64 1000] 800 25) (ok1 : OkG [.i .i64 a, .i .i64 4] 3) : run5b a b 800 25 3 ok0 ok1 = true := by kernel_rfl
theorem d33 (a b : Int) (ok0 : OkD [.i .i64 b, .i .i64 1000] 825 25) (ok1 : OkG [.i .i64 a, .i .i64 4] 3) : run5b a b 825 25 3 ok0 ok1 = true := by kernel_rfl
theorem d34 (a b : Int) (ok0 : OkD [.i .i64 b, .i .i64 1000] 850 25) (ok1 : OkG [.i .i64 a, .i .i64 4] 3) : run5b a b 850 25 3 ok0 ok1 = true := by kernel_rfl
theorem d35 (a b : Int) (ok0 : OkD [.i .i64 b, .i .i64 1000] 875 25) (ok1 : OkG [.i .i64 a, .i .i64 4] 3) : run5b a b 875 25 3 ok0 ok1 = true := by kernel_rfl
end Go.Proofs.YtjaammiblfndaaaGreat
