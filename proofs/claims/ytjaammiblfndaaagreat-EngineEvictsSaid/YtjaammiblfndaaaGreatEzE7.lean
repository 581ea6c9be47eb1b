/- A part of the proof: contracts of functions, over the abstract machine. -/
import Derived.Test.YtjaammiblfndaaaGreatEzE
import Derived.KernelRfl
set_option linter.unusedVariables false
set_option linter.unusedSimpArgs false
set_option linter.all false
/- Runs of a law. -/
namespace Go.Proofs.YtjaammiblfndaaaGreat
open Ram Go
set_option maxRecDepth 1000000
theorem e7_0 (a b : Int) (ok0 : OkG [.i .i64 a, .i .i64 10] 7) (ok1 : OkG [.i .i64 b, .i .i64 5] 0) : run6 a b 7 0 ok0 ok1 = true := by kernel_rfl
theorem e7_1 (a b : Int) (ok0 : OkG [.i .i64 a, .i .i64 10] 7) (ok1 : OkG [.i .i64 b, .i .i64 5] 1) : run6 a b 7 1 ok0 ok1 = true := by kernel_rfl
theorem e7_2 (a b : Int) (ok0 : OkG [.i .i64 a, .i .i64 10] 7) (ok1 : OkG [.i .i64 b, .i .i64 5] 2) : run6 a b 7 2 ok0 ok1 = true := by kernel_rfl
theorem e7_3 (a b : Int) (ok0 : OkG [.i .i64 a, .i .i64 10] 7) (ok1 : OkG [.i .i64 b, .i .i64 5] 3) : run6 a b 7 3 ok0 ok1 = true := by kernel_rfl
theorem e7_4 (a b : Int) (ok0 : OkG [.i .i64 a, .i .i64 10] 7) (ok1 : OkG [.i .i64 b, .i .i64 5] 4) : run6 a b 7 4 ok0 ok1 = true := by kernel_rfl
end Go.Proofs.YtjaammiblfndaaaGreat
