/- A part of the proof: contracts of functions, over the abstract machine. -/
import Derived.Test.YtjaammiblfndaaaGreatEzC
import Derived.KernelRfl
set_option linter.unusedVariables false
set_option linter.unusedSimpArgs false
set_option linter.all false
/- Runs of a law. -/
namespace Go.Proofs.YtjaammiblfndaaaGreat
open Ram Go
set_option maxRecDepth 1000000
theorem d4 (a b : Int) (ok0 : OkD [.i .i64 b, .i .i64 1000] 100 25) (ok1 : OkG [.i .i64 a, .i .i64 4] 3) : run5b a b 100 25 3 ok0 ok1 = true := by kernel_rfl
theorem d5 (a b : Int) (ok0 : OkD [.i .i64 b, .i .i64 1000] 125 25) (ok1 : OkG [.i .i64 a, .i .i64 4] 3) : run5b a b 125 25 3 ok0 ok1 = true := by kernel_rfl
theorem d6 (a b : Int) (ok0 : OkD [.i .i64 b, .i .i64 1000] 150 25) (ok1 : OkG [.i .i64 a, .i .i64 4] 3) : run5b a b 150 25 3 ok0 ok1 = true := by kernel_rfl
theorem d7 (a b : Int) (ok0 : OkD [.i .i64 b, .i .i64 1000] 175 25) (ok1 : OkG [.i .i64 a, .i .i64 4] 3) : run5b a b 175 25 3 ok0 ok1 = true := by kernel_rfl
end Go.Proofs.YtjaammiblfndaaaGreat
