/- A part of the proof: contracts of functions, over the abstract machine. -/
import Derived.Test.YtceamnigcimldaaGreatDoorZd3
set_option linter.unusedVariables false
set_option linter.unusedSimpArgs false
set_option linter.all false
/- Runs of RuleWrong: the bad text number 7. -/
namespace Go.Proofs.YtceamnigcimldaaGreatDoor
open Ram Go
theorem w7_0 (a b : Int) : wrongOk a b 7 0 = true := by kernel_rfl
theorem w7_1 (a b : Int) : wrongOk a b 7 1 = true := by kernel_rfl
theorem w7_2 (a b : Int) : wrongOk a b 7 2 = true := by kernel_rfl
theorem w7_3 (a b : Int) : wrongOk a b 7 3 = true := by kernel_rfl
theorem w7_4 (a b : Int) : wrongOk a b 7 4 = true := by kernel_rfl
theorem w7 (a b : Int) : ∀ n, n < 5 → wrongOk a b 7 n = true
  | 0, _ => w7_0 a b
  | 1, _ => w7_1 a b
  | 2, _ => w7_2 a b
  | 3, _ => w7_3 a b
  | 4, _ => w7_4 a b
  | n + 5, h => absurd h (by omega)
end Go.Proofs.YtceamnigcimldaaGreatDoor
