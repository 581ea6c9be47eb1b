/- A part of the proof: contracts of functions, over the abstract machine. -/
import Derived.Test.YtceamnigcimldaaGreatDoorZd3
set_option linter.unusedVariables false
set_option linter.unusedSimpArgs false
set_option linter.all false
/- Runs of RuleWrong: the bad text number 6. -/
namespace Go.Proofs.YtceamnigcimldaaGreatDoor
open Ram Go
theorem w6_0 (a b : Int) : wrongOk a b 6 0 = true := by kernel_rfl
theorem w6_1 (a b : Int) : wrongOk a b 6 1 = true := by kernel_rfl
theorem w6_2 (a b : Int) : wrongOk a b 6 2 = true := by kernel_rfl
theorem w6_3 (a b : Int) : wrongOk a b 6 3 = true := by kernel_rfl
theorem w6_4 (a b : Int) : wrongOk a b 6 4 = true := by kernel_rfl
theorem w6 (a b : Int) : ∀ n, n < 5 → wrongOk a b 6 n = true
  | 0, _ => w6_0 a b
  | 1, _ => w6_1 a b
  | 2, _ => w6_2 a b
  | 3, _ => w6_3 a b
  | 4, _ => w6_4 a b
  | n + 5, h => absurd h (by omega)
end Go.Proofs.YtceamnigcimldaaGreatDoor
