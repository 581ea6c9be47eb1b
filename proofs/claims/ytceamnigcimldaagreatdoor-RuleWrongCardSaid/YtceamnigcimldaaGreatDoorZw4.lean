/- A part of the proof: contracts of functions, over the abstract machine. -/
import Derived.Test.YtceamnigcimldaaGreatDoorZd3
set_option linter.unusedVariables false
set_option linter.unusedSimpArgs false
set_option linter.all false
/- Runs of RuleWrong: the bad text number 4. -/
namespace Go.Proofs.YtceamnigcimldaaGreatDoor
open Ram Go
theorem w4_0 (a b : Int) : wrongOk a b 4 0 = true := by kernel_rfl
theorem w4_1 (a b : Int) : wrongOk a b 4 1 = true := by kernel_rfl
theorem w4_2 (a b : Int) : wrongOk a b 4 2 = true := by kernel_rfl
theorem w4_3 (a b : Int) : wrongOk a b 4 3 = true := by kernel_rfl
theorem w4_4 (a b : Int) : wrongOk a b 4 4 = true := by kernel_rfl
theorem w4 (a b : Int) : ∀ n, n < 5 → wrongOk a b 4 n = true
  | 0, _ => w4_0 a b
  | 1, _ => w4_1 a b
  | 2, _ => w4_2 a b
  | 3, _ => w4_3 a b
  | 4, _ => w4_4 a b
  | n + 5, h => absurd h (by omega)
end Go.Proofs.YtceamnigcimldaaGreatDoor
