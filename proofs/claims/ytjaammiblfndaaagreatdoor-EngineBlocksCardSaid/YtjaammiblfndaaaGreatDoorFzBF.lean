/- A part of the proof: contracts of functions, over the abstract machine. -/
import Derived.Test.YtjaammiblfndaaaGreatDoorFzB0
import Derived.Test.YtjaammiblfndaaaGreatDoorFzB1
import Derived.Test.YtjaammiblfndaaaGreatDoorFzB2
import Derived.Test.YtjaammiblfndaaaGreatDoorFzB3
import Derived.Test.YtjaammiblfndaaaGreatDoorFzB4
import Derived.Test.YtjaammiblfndaaaGreatDoorFzB5
import Derived.Test.YtjaammiblfndaaaGreatDoorFzB6
import Derived.Test.YtjaammiblfndaaaGreatDoorFzB7
import Derived.Test.YtjaammiblfndaaaGreatDoorFzB8
import Derived.Test.YtjaammiblfndaaaGreatDoorFzB9
set_option linter.unusedVariables false
set_option linter.unusedSimpArgs false
set_option linter.all false
/- The law. -/
namespace Go.Proofs.YtjaammiblfndaaaGreatDoor
open Ram Go
variable {W0 : World}
theorem b_all (a : Int) : ∀ l, l < 50 → ∀ (e : Bool) (ok0 : OkG [.i .i64 a, .i .i64 (Int.ofNat 50)] l), run6 a e l ok0 = true
  | 0, _, true => b0_t a
  | 0, _, false => b0_f a
  | 1, _, true => b1_t a
  | 1, _, false => b1_f a
  | 2, _, true => b2_t a
  | 2, _, false => b2_f a
  | 3, _, true => b3_t a
  | 3, _, false => b3_f a
  | 4, _, true => b4_t a
  | 4, _, false => b4_f a
  | 5, _, true => b5_t a
  | 5, _, false => b5_f a
  | 6, _, true => b6_t a
  | 6, _, false => b6_f a
  | 7, _, true => b7_t a
  | 7, _, false => b7_f a
  | 8, _, true => b8_t a
  | 8, _, false => b8_f a
  | 9, _, true => b9_t a
  | 9, _, false => b9_f a
  | 10, _, true => b10_t a
  | 10, _, false => b10_f a
  | 11, _, true => b11_t a
  | 11, _, false => b11_f a
  | 12, _, true => b12_t a
  | 12, _, false => b12_f a
  | 13, _, true => b13_t a
  | 13, _, false => b13_f a
  | 14, _, true => b14_t a
  | 14, _, false => b14_f a
  | 15, _, true => b15_t a
  | 15, _, false => b15_f a
  | 16, _, true => b16_t a
  | 16, _, false => b16_f a
  | 17, _, true => b17_t a
  | 17, _, false => b17_f a
  | 18, _, true => b18_t a
  | 18, _, false => b18_f a
  | 19, _, true => b19_t a
  | 19, _, false => b19_f a
  | 20, _, true => b20_t a
  | 20, _, false => b20_f a
  | 21, _, true => b21_t a
  | 21, _, false => b21_f a
  | 22, _, true => b22_t a
  | 22, _, false => b22_f a
  | 23, _, true => b23_t a
  | 23, _, false => b23_f a
  | 24, _, true => b24_t a
  | 24, _, false => b24_f a
  | 25, _, true => b25_t a
  | 25, _, false => b25_f a
  | 26, _, true => b26_t a
  | 26, _, false => b26_f a
  | 27, _, true => b27_t a
  | 27, _, false => b27_f a
  | 28, _, true => b28_t a
  | 28, _, false => b28_f a
  | 29, _, true => b29_t a
  | 29, _, false => b29_f a
  | 30, _, true => b30_t a
  | 30, _, false => b30_f a
  | 31, _, true => b31_t a
  | 31, _, false => b31_f a
  | 32, _, true => b32_t a
  | 32, _, false => b32_f a
  | 33, _, true => b33_t a
  | 33, _, false => b33_f a
  | 34, _, true => b34_t a
  | 34, _, false => b34_f a
  | 35, _, true => b35_t a
  | 35, _, false => b35_f a
  | 36, _, true => b36_t a
  | 36, _, false => b36_f a
  | 37, _, true => b37_t a
  | 37, _, false => b37_f a
  | 38, _, true => b38_t a
  | 38, _, false => b38_f a
  | 39, _, true => b39_t a
  | 39, _, false => b39_f a
  | 40, _, true => b40_t a
  | 40, _, false => b40_f a
  | 41, _, true => b41_t a
  | 41, _, false => b41_f a
  | 42, _, true => b42_t a
  | 42, _, false => b42_f a
  | 43, _, true => b43_t a
  | 43, _, false => b43_f a
  | 44, _, true => b44_t a
  | 44, _, false => b44_f a
  | 45, _, true => b45_t a
  | 45, _, false => b45_f a
  | 46, _, true => b46_t a
  | 46, _, false => b46_f a
  | 47, _, true => b47_t a
  | 47, _, false => b47_f a
  | 48, _, true => b48_t a
  | 48, _, false => b48_f a
  | 49, _, true => b49_t a
  | 49, _, false => b49_f a
  | n + 50, h, _ => absurd h (by omega)
/-- EngineBlocks. -/
theorem f6 (A : AH) (args : List V) (h : HasA A [.one (.i .i64), .one .b] args) : ACalls Tryz.prog W0 6 args A fun e _ => e = .ret (.b true) := by
  obtain ⟨a, _, rfl, ha, h1⟩ := h.invi
  obtain ⟨x, _, rfl, h2⟩ := h1.invb
  rw [h2.inv0]
  refine (acalls_anywhere (v := .b true) rfl rfl fun W hW => ?_).mono fun e H h => h.1
  obtain ⟨l, hl, ok0⟩ := place a 50 (by omega) (by omega)
  exact law6 a x l ok0 (b_all a l hl x ok0) W
end Go.Proofs.YtjaammiblfndaaaGreatDoor
