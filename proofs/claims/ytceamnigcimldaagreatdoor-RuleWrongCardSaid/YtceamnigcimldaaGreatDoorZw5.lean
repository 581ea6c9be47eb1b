/- A part of the proof: contracts of functions, over the abstract machine. -/
import Derived.Test.YtceamnigcimldaaGreatDoorZd3
set_option linter.unusedVariables false
set_option linter.unusedSimpArgs false
set_option linter.all false
/- Runs of RuleWrong: the bad text number 5. -/
namespace Go.Proofs.YtceamnigcimldaaGreatDoor
open Ram Go
theorem w5_0 (a b : Int) : wrongOk a b 5 0 = true := by kernel_rfl
theorem w5_1 (a b : Int) : wrongOk a b 5 1 = true := by kernel_rfl
theorem w5_2 (a b : Int) : wrongOk a b 5 2 = true := by kernel_rfl
theorem w5_3 (a b : Int) : wrongOk a b 5 3 = true := by kernel_rfl
theorem w5_4 (a b : Int) : wrongOk a b 5 4 = true := by kernel_rfl
theorem w5 (a b : Int) : ∀ n, n < 5 → wrongOk a b 5 n = true
  | 0, _ => w5_0 a b
  | 1, _ => w5_1 a b
  | 2, _ => w5_2 a b
  | 3, _ => w5_3 a b
  | 4, _ => w5_4 a b
  | n + 5, h => absurd h (by omega)
end Go.Proofs.YtceamnigcimldaaGreatDoor
