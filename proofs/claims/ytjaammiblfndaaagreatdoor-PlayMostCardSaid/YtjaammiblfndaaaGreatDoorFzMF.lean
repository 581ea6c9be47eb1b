/- A part of the proof: contracts of functions, over the abstract machine. -/
import Derived.Test.YtjaammiblfndaaaGreatDoorFzM0
import Derived.Test.YtjaammiblfndaaaGreatDoorFzM1
import Derived.Test.YtjaammiblfndaaaGreatDoorFzM2
import Derived.Test.YtjaammiblfndaaaGreatDoorFzM3
import Derived.Test.YtjaammiblfndaaaGreatDoorFzM4
set_option linter.unusedVariables false
set_option linter.unusedSimpArgs false
set_option linter.all false
/- The law. -/
namespace Go.Proofs.YtjaammiblfndaaaGreatDoor
open Ram Go
variable {W0 : World}
theorem m_all (a : Int) : ∀ l, l < 5 → ∀ (ok0 : OkG [.i .i64 a, .i .i64 (Int.ofNat 5)] l), run7 a l ok0 = true
  | 0, _ => m0 a
  | 1, _ => m1 a
  | 2, _ => m2 a
  | 3, _ => m3 a
  | 4, _ => m4 a
  | n + 5, h => absurd h (by omega)
/-- PlayMost. -/
theorem f7 (A : AH) (args : List V) (h : HasA A [.one (.i .i64)] args) : ACalls Tryz.prog W0 7 args A fun e _ => e = .ret (.b true) := by
  obtain ⟨a, _, rfl, ha, h1⟩ := h.invi
  rw [h1.inv0]
  refine (acalls_anywhere (v := .b true) rfl rfl fun W hW => ?_).mono fun e H h => h.1
  obtain ⟨l, hl, ok0⟩ := place a 5 (by omega) (by omega)
  exact law7 a l ok0 (m_all a l hl ok0) W
end Go.Proofs.YtjaammiblfndaaaGreatDoor
