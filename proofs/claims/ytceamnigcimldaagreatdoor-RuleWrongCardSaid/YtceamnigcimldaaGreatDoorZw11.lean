/- A part of the proof: contracts of functions, over the abstract machine. -/
import Derived.Test.YtceamnigcimldaaGreatDoorZd3
set_option linter.unusedVariables false
set_option linter.unusedSimpArgs false
set_option linter.all false
/- Runs of RuleWrong: the bad text number 11. -/
namespace Go.Proofs.YtceamnigcimldaaGreatDoor
open Ram Go
theorem w11_0 (a b : Int) : wrongOk a b 11 0 = true := by kernel_rfl
theorem w11_1 (a b : Int) : wrongOk a b 11 1 = true := by kernel_rfl
theorem w11_2 (a b : Int) : wrongOk a b 11 2 = true := by kernel_rfl
theorem w11_3 (a b : Int) : wrongOk a b 11 3 = true := by kernel_rfl
theorem w11_4 (a b : Int) : wrongOk a b 11 4 = true := by kernel_rfl
theorem w11 (a b : Int) : ∀ n, n < 5 → wrongOk a b 11 n = true
  | 0, _ => w11_0 a b
  | 1, _ => w11_1 a b
  | 2, _ => w11_2 a b
  | 3, _ => w11_3 a b
  | 4, _ => w11_4 a b
  | n + 5, h => absurd h (by omega)
end Go.Proofs.YtceamnigcimldaaGreatDoor
