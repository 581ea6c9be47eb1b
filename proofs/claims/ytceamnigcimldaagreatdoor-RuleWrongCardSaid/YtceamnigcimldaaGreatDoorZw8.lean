/- A part of the proof: contracts of functions, over the abstract machine. -/
import Derived.Test.YtceamnigcimldaaGreatDoorZd3
set_option linter.unusedVariables false
set_option linter.unusedSimpArgs false
set_option linter.all false
/- Runs of RuleWrong: the bad text number 8. -/
namespace Go.Proofs.YtceamnigcimldaaGreatDoor
open Ram Go
theorem w8_0 (a b : Int) : wrongOk a b 8 0 = true := by kernel_rfl
theorem w8_1 (a b : Int) : wrongOk a b 8 1 = true := by kernel_rfl
theorem w8_2 (a b : Int) : wrongOk a b 8 2 = true := by kernel_rfl
theorem w8_3 (a b : Int) : wrongOk a b 8 3 = true := by kernel_rfl
theorem w8_4 (a b : Int) : wrongOk a b 8 4 = true := by kernel_rfl
theorem w8 (a b : Int) : ∀ n, n < 5 → wrongOk a b 8 n = true
  | 0, _ => w8_0 a b
  | 1, _ => w8_1 a b
  | 2, _ => w8_2 a b
  | 3, _ => w8_3 a b
  | 4, _ => w8_4 a b
  | n + 5, h => absurd h (by omega)
end Go.Proofs.YtceamnigcimldaaGreatDoor
