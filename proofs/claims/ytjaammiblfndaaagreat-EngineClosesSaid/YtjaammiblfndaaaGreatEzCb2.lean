/- A part of the proof: contracts of functions, over the abstract machine. -/
import Derived.Test.YtjaammiblfndaaaGreatEzC
import Derived.KernelRfl
set_option linter.unusedVariables false
set_option linter.unusedSimpArgs false
set_option linter.all false
/- Runs of a law. -/
namespace Go.Proofs.YtjaammiblfndaaaGreat
open Ram Go
set_option maxRecDepth 1000000
theorem d8 (a b : Int) (ok0 : OkD [.i .i64 b, .i .i64 1000] 200 25) (ok1 : OkG [.i .i64 a, .i .i64 4] 3) : run5b a b 200 25 3 ok0 ok1 = true := by kernel_rfl
theorem d9 (a b : Int) (ok0 : OkD [.i .i64 b, .i .i64 1000] 225 25) (ok1 : OkG [.i .i64 a, .i .i64 4] 3) : run5b a b 225 25 3 ok0 ok1 = true := by kernel_rfl
theorem d10 (a b : Int) (ok0 : OkD [.i .i64 b, .i .i64 1000] 250 25) (ok1 : OkG [.i .i64 a, .i .i64 4] 3) : run5b a b 250 25 3 ok0 ok1 = true := by kernel_rfl
theorem d11 (a b : Int) (ok0 : OkD [.i .i64 b, .i .i64 1000] 275 25) (ok1 : OkG [.i .i64 a, .i .i64 4] 3) : run5b a b 275 25 3 ok0 ok1 = true := by kernel_rfl
end Go.Proofs.YtjaammiblfndaaaGreat
