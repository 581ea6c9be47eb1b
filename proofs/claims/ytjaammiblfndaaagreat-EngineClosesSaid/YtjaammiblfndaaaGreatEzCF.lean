/- A part of the proof: contracts of functions, over the abstract machine. -/
import Derived.Test.YtjaammiblfndaaaGreatEzCa
import Derived.Test.YtjaammiblfndaaaGreatEzCb0
import Derived.Test.YtjaammiblfndaaaGreatEzCb1
import Derived.Test.YtjaammiblfndaaaGreatEzCb2
import Derived.Test.YtjaammiblfndaaaGreatEzCb3
import Derived.Test.YtjaammiblfndaaaGreatEzCb4
import Derived.Test.YtjaammiblfndaaaGreatEzCb5
import Derived.Test.YtjaammiblfndaaaGreatEzCb6
import Derived.Test.YtjaammiblfndaaaGreatEzCb7
import Derived.Test.YtjaammiblfndaaaGreatEzCb8
import Derived.Test.YtjaammiblfndaaaGreatEzCb9
set_option linter.unusedVariables false
set_option linter.unusedSimpArgs false
set_option linter.all false
/- The law EngineCloses. -/
namespace Go.Proofs.YtjaammiblfndaaaGreat
open Ram Go
variable {W0 : World}
theorem d_all (a b : Int) : ∀ q, q < 40 → ∀ (ok0 : OkD [.i .i64 b, .i .i64 1000] (25 * q) 25) (ok1 : OkG [.i .i64 a, .i .i64 4] 3), run5b a b (25 * q) 25 3 ok0 ok1 = true
  | 0, _ => d0 a b
  | 1, _ => d1 a b
  | 2, _ => d2 a b
  | 3, _ => d3 a b
  | 4, _ => d4 a b
  | 5, _ => d5 a b
  | 6, _ => d6 a b
  | 7, _ => d7 a b
  | 8, _ => d8 a b
  | 9, _ => d9 a b
  | 10, _ => d10 a b
  | 11, _ => d11 a b
  | 12, _ => d12 a b
  | 13, _ => d13 a b
  | 14, _ => d14 a b
  | 15, _ => d15 a b
  | 16, _ => d16 a b
  | 17, _ => d17 a b
  | 18, _ => d18 a b
  | 19, _ => d19 a b
  | 20, _ => d20 a b
  | 21, _ => d21 a b
  | 22, _ => d22 a b
  | 23, _ => d23 a b
  | 24, _ => d24 a b
  | 25, _ => d25 a b
  | 26, _ => d26 a b
  | 27, _ => d27 a b
  | 28, _ => d28 a b
  | 29, _ => d29 a b
  | 30, _ => d30 a b
  | 31, _ => d31 a b
  | 32, _ => d32 a b
  | 33, _ => d33 a b
  | 34, _ => d34 a b
  | 35, _ => d35 a b
  | 36, _ => d36 a b
  | 37, _ => d37 a b
  | 38, _ => d38 a b
  | 39, _ => d39 a b
  | q + 40, h => absurd h (by omega)
/-- The law EngineCloses. -/
theorem f5 (A : AH) (args : List V) (h : HasA A [.one (.i .i64), .one (.i .i64)] args) : ACalls Tryz.prog W0 5 args A fun e _ => e = .ret (.b true) := by
  obtain ⟨a, _, rfl, ha, h1⟩ := h.invi
  obtain ⟨b, _, rfl, hb, h2⟩ := h1.invi
  rw [h2.inv0]
  refine (acalls_anywhere (v := .b true) rfl rfl fun W hW => ?_).mono fun e H h => h.1
  obtain ⟨l, hl, okb⟩ := place b 1000 (by omega) (by omega)
  obtain ⟨r, hr, oka⟩ := place a 4 (by omega) (by omega)
  have h4 : r = 0 ∨ r = 1 ∨ r = 2 ∨ r = 3 := by omega
  rcases h4 with rfl | rfl | rfl | rfl
  · exact law5a a b l 0 okb oka hl (c0 a b l okb oka) W
  · exact law5a a b l 1 okb oka hl (c1 a b l okb oka) W
  · exact law5a a b l 2 okb oka hl (c2 a b l okb oka) W
  · have hd : OkD [.i .i64 b, .i .i64 1000] (25 * (l / 25)) 25 := ⟨l, by omega, by omega, okb⟩
    exact law5b a b (25 * (l / 25)) 25 3 hd oka (d_all a b (l / 25) (by omega) hd oka) W
end Go.Proofs.YtjaammiblfndaaaGreat
