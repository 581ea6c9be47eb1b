/- A part of the proof: contracts of functions, over the abstract machine. -/
import Derived.Test.YtjaammiblfndaaaGreatEzC
import Derived.KernelRfl
set_option linter.unusedVariables false
set_option linter.unusedSimpArgs false
set_option linter.all false
/- Runs of a law. -/
namespace Go.Proofs.YtjaammiblfndaaaGreat
open Ram Go
set_option maxRecDepth 1000000
theorem c0 (a b : Int) (l : Nat) (ok0 : OkG [.i .i64 b, .i .i64 1000] l) (ok1 : OkG [.i .i64 a, .i .i64 4] 0) : run5a a b l 0 ok0 ok1 = true := by kernel_rfl
theorem c1 (a b : Int) (l : Nat) (ok0 : OkG [.i .i64 b, .i .i64 1000] l) (ok1 : OkG [.i .i64 a, .i .i64 4] 1) : run5a a b l 1 ok0 ok1 = true := by kernel_rfl
theorem c2 (a b : Int) (l : Nat) (ok0 : OkG [.i .i64 b, .i .i64 1000] l) (ok1 : OkG [.i .i64 a, .i .i64 4] 2) : run5a a b l 2 ok0 ok1 = true := by kernel_rfl
end Go.Proofs.YtjaammiblfndaaaGreat
