/- A part of the proof: contracts of functions, over the abstract machine. -/
import Derived.Test.YtjaammiblfndaaaGreatDoorGzS0
import Derived.Test.YtjaammiblfndaaaGreatDoorGzS1
set_option linter.unusedVariables false
set_option linter.unusedSimpArgs false
set_option linter.all false
/- The law. -/
namespace Go.Proofs.YtjaammiblfndaaaGreatDoor
open Ram Go
variable {W0 : World}
theorem g_all (a : Int) : ∀ l, l < 14 → ∀ (ok0 : OkG [.i .i64 a, .i .i64 (Int.ofNat 14)] l), run10 a l ok0 = true
  | 0, _ => tk0 a
  | 1, _ => tk1 a
  | 2, _ => tk2 a
  | 3, _ => tk3 a
  | 4, _ => tk4 a
  | 5, _ => tk5 a
  | 6, _ => tk6 a
  | 7, _ => tk7 a
  | 8, _ => tk8 a
  | 9, _ => tk9 a
  | 10, _ => tk10 a
  | 11, _ => tk11 a
  | 12, _ => tk12 a
  | 13, _ => tk13 a
  | n + 14, h => absurd h (by omega)
/-- SheetTicks. -/
theorem f10 (A : AH) (args : List V) (h : HasA A [.one (.i .i64)] args) : ACalls Tryz.prog W0 10 args A fun e _ => e = .ret (.b true) := by
  obtain ⟨a, _, rfl, ha, h1⟩ := h.invi
  rw [h1.inv0]
  refine (acalls_anywhere (v := .b true) rfl rfl fun W hW => ?_).mono fun e H h => h.1
  obtain ⟨l, hl, ok0⟩ := place a 14 (by omega) (by omega)
  exact law10 a l ok0 (g_all a l hl ok0) W
end Go.Proofs.YtjaammiblfndaaaGreatDoor
