/- A part of the proof: contracts of functions, over the abstract machine. -/
import Derived.Test.YtceamnigcimldaaGreatDoorZd3
set_option linter.unusedVariables false
set_option linter.unusedSimpArgs false
set_option linter.all false
/- Runs of RuleWrong: the bad text number 3. -/
namespace Go.Proofs.YtceamnigcimldaaGreatDoor
open Ram Go
theorem w3_0 (a b : Int) : wrongOk a b 3 0 = true := by kernel_rfl
theorem w3_1 (a b : Int) : wrongOk a b 3 1 = true := by kernel_rfl
theorem w3_2 (a b : Int) : wrongOk a b 3 2 = true := by kernel_rfl
theorem w3_3 (a b : Int) : wrongOk a b 3 3 = true := by kernel_rfl
theorem w3_4 (a b : Int) : wrongOk a b 3 4 = true := by kernel_rfl
theorem w3 (a b : Int) : ∀ n, n < 5 → wrongOk a b 3 n = true
  | 0, _ => w3_0 a b
  | 1, _ => w3_1 a b
  | 2, _ => w3_2 a b
  | 3, _ => w3_3 a b
  | 4, _ => w3_4 a b
  | n + 5, h => absurd h (by omega)
end Go.Proofs.YtceamnigcimldaaGreatDoor
