/- A part of the proof: contracts of functions, over the abstract machine. -/
import Derived.Test.YtjaammiblfndaaaGreatEzE0
import Derived.Test.YtjaammiblfndaaaGreatEzE1
import Derived.Test.YtjaammiblfndaaaGreatEzE2
import Derived.Test.YtjaammiblfndaaaGreatEzE3
import Derived.Test.YtjaammiblfndaaaGreatEzE4
import Derived.Test.YtjaammiblfndaaaGreatEzE5
import Derived.Test.YtjaammiblfndaaaGreatEzE6
import Derived.Test.YtjaammiblfndaaaGreatEzE7
import Derived.Test.YtjaammiblfndaaaGreatEzE8
import Derived.Test.YtjaammiblfndaaaGreatEzE9
set_option linter.unusedVariables false
set_option linter.unusedSimpArgs false
set_option linter.all false
/- The law EngineEvicts. -/
namespace Go.Proofs.YtjaammiblfndaaaGreat
open Ram Go
variable {W0 : World}
theorem e_all (a b : Int) : ∀ l, l < 10 → ∀ r, r < 5 → ∀ (ok0 : OkG [.i .i64 a, .i .i64 10] l) (ok1 : OkG [.i .i64 b, .i .i64 5] r), run6 a b l r ok0 ok1 = true
  | 0, _, 0, _ => e0_0 a b
  | 0, _, 1, _ => e0_1 a b
  | 0, _, 2, _ => e0_2 a b
  | 0, _, 3, _ => e0_3 a b
  | 0, _, 4, _ => e0_4 a b
  | 1, _, 0, _ => e1_0 a b
  | 1, _, 1, _ => e1_1 a b
  | 1, _, 2, _ => e1_2 a b
  | 1, _, 3, _ => e1_3 a b
  | 1, _, 4, _ => e1_4 a b
  | 2, _, 0, _ => e2_0 a b
  | 2, _, 1, _ => e2_1 a b
  | 2, _, 2, _ => e2_2 a b
  | 2, _, 3, _ => e2_3 a b
  | 2, _, 4, _ => e2_4 a b
  | 3, _, 0, _ => e3_0 a b
  | 3, _, 1, _ => e3_1 a b
  | 3, _, 2, _ => e3_2 a b
  | 3, _, 3, _ => e3_3 a b
  | 3, _, 4, _ => e3_4 a b
  | 4, _, 0, _ => e4_0 a b
  | 4, _, 1, _ => e4_1 a b
  | 4, _, 2, _ => e4_2 a b
  | 4, _, 3, _ => e4_3 a b
  | 4, _, 4, _ => e4_4 a b
  | 5, _, 0, _ => e5_0 a b
  | 5, _, 1, _ => e5_1 a b
  | 5, _, 2, _ => e5_2 a b
  | 5, _, 3, _ => e5_3 a b
  | 5, _, 4, _ => e5_4 a b
  | 6, _, 0, _ => e6_0 a b
  | 6, _, 1, _ => e6_1 a b
  | 6, _, 2, _ => e6_2 a b
  | 6, _, 3, _ => e6_3 a b
  | 6, _, 4, _ => e6_4 a b
  | 7, _, 0, _ => e7_0 a b
  | 7, _, 1, _ => e7_1 a b
  | 7, _, 2, _ => e7_2 a b
  | 7, _, 3, _ => e7_3 a b
  | 7, _, 4, _ => e7_4 a b
  | 8, _, 0, _ => e8_0 a b
  | 8, _, 1, _ => e8_1 a b
  | 8, _, 2, _ => e8_2 a b
  | 8, _, 3, _ => e8_3 a b
  | 8, _, 4, _ => e8_4 a b
  | 9, _, 0, _ => e9_0 a b
  | 9, _, 1, _ => e9_1 a b
  | 9, _, 2, _ => e9_2 a b
  | 9, _, 3, _ => e9_3 a b
  | 9, _, 4, _ => e9_4 a b
  | l + 10, h, _, _ => absurd h (by omega)
  | _, _, r + 5, h => absurd h (by omega)
/-- The law EngineEvicts. -/
theorem f6 (A : AH) (args : List V) (h : HasA A [.one (.i .i64), .one (.i .i64)] args) : ACalls Tryz.prog W0 6 args A fun e _ => e = .ret (.b true) := by
  obtain ⟨a, _, rfl, ha, h1⟩ := h.invi
  obtain ⟨b, _, rfl, hb, h2⟩ := h1.invi
  rw [h2.inv0]
  refine (acalls_anywhere (v := .b true) rfl rfl fun W hW => ?_).mono fun e H h => h.1
  obtain ⟨l, hl, oka⟩ := place a 10 (by omega) (by omega)
  obtain ⟨r, hr, okb⟩ := place b 5 (by omega) (by omega)
  exact law6 a b l r oka okb (e_all a b l hl r hr oka okb) W
end Go.Proofs.YtjaammiblfndaaaGreat
