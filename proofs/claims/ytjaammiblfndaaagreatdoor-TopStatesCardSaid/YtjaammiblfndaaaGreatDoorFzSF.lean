/- A part of the proof: contracts of functions, over the abstract machine. -/
import Derived.Test.YtjaammiblfndaaaGreatDoorFzS0
import Derived.Test.YtjaammiblfndaaaGreatDoorFzS1
import Derived.Test.YtjaammiblfndaaaGreatDoorFzS2
import Derived.Test.YtjaammiblfndaaaGreatDoorFzS3
import Derived.Test.YtjaammiblfndaaaGreatDoorFzS4
import Derived.Test.YtjaammiblfndaaaGreatDoorFzS5
import Derived.Test.YtjaammiblfndaaaGreatDoorFzS6
import Derived.Test.YtjaammiblfndaaaGreatDoorFzS7
import Derived.Test.YtjaammiblfndaaaGreatDoorFzS8
set_option linter.unusedVariables false
set_option linter.unusedSimpArgs false
set_option linter.all false
/- The law. -/
namespace Go.Proofs.YtjaammiblfndaaaGreatDoor
open Ram Go
variable {W0 : World}
theorem s_all (a b : Int) : ∀ l, l < 20 → ∀ r, r < 8 → ∀ (ok0 : OkG [.i .i64 a, .i .i64 (Int.ofNat 20)] l) (ok1 : OkD [.i .i64 b, .i .i64 (Int.ofNat 16)] (2 * r) 2), run11 a b l (2 * r) 2 ok0 ok1 = true
  | 0, _, 0, _ => s0_0 a b
  | 0, _, 1, _ => s0_1 a b
  | 0, _, 2, _ => s0_2 a b
  | 0, _, 3, _ => s0_3 a b
  | 0, _, 4, _ => s0_4 a b
  | 0, _, 5, _ => s0_5 a b
  | 0, _, 6, _ => s0_6 a b
  | 0, _, 7, _ => s0_7 a b
  | 1, _, 0, _ => s1_0 a b
  | 1, _, 1, _ => s1_1 a b
  | 1, _, 2, _ => s1_2 a b
  | 1, _, 3, _ => s1_3 a b
  | 1, _, 4, _ => s1_4 a b
  | 1, _, 5, _ => s1_5 a b
  | 1, _, 6, _ => s1_6 a b
  | 1, _, 7, _ => s1_7 a b
  | 2, _, 0, _ => s2_0 a b
  | 2, _, 1, _ => s2_1 a b
  | 2, _, 2, _ => s2_2 a b
  | 2, _, 3, _ => s2_3 a b
  | 2, _, 4, _ => s2_4 a b
  | 2, _, 5, _ => s2_5 a b
  | 2, _, 6, _ => s2_6 a b
  | 2, _, 7, _ => s2_7 a b
  | 3, _, 0, _ => s3_0 a b
  | 3, _, 1, _ => s3_1 a b
  | 3, _, 2, _ => s3_2 a b
  | 3, _, 3, _ => s3_3 a b
  | 3, _, 4, _ => s3_4 a b
  | 3, _, 5, _ => s3_5 a b
  | 3, _, 6, _ => s3_6 a b
  | 3, _, 7, _ => s3_7 a b
  | 4, _, 0, _ => s4_0 a b
  | 4, _, 1, _ => s4_1 a b
  | 4, _, 2, _ => s4_2 a b
  | 4, _, 3, _ => s4_3 a b
  | 4, _, 4, _ => s4_4 a b
  | 4, _, 5, _ => s4_5 a b
  | 4, _, 6, _ => s4_6 a b
  | 4, _, 7, _ => s4_7 a b
  | 5, _, 0, _ => s5_0 a b
  | 5, _, 1, _ => s5_1 a b
  | 5, _, 2, _ => s5_2 a b
  | 5, _, 3, _ => s5_3 a b
  | 5, _, 4, _ => s5_4 a b
  | 5, _, 5, _ => s5_5 a b
  | 5, _, 6, _ => s5_6 a b
  | 5, _, 7, _ => s5_7 a b
  | 6, _, 0, _ => s6_0 a b
  | 6, _, 1, _ => s6_1 a b
  | 6, _, 2, _ => s6_2 a b
  | 6, _, 3, _ => s6_3 a b
  | 6, _, 4, _ => s6_4 a b
  | 6, _, 5, _ => s6_5 a b
  | 6, _, 6, _ => s6_6 a b
  | 6, _, 7, _ => s6_7 a b
  | 7, _, 0, _ => s7_0 a b
  | 7, _, 1, _ => s7_1 a b
  | 7, _, 2, _ => s7_2 a b
  | 7, _, 3, _ => s7_3 a b
  | 7, _, 4, _ => s7_4 a b
  | 7, _, 5, _ => s7_5 a b
  | 7, _, 6, _ => s7_6 a b
  | 7, _, 7, _ => s7_7 a b
  | 8, _, 0, _ => s8_0 a b
  | 8, _, 1, _ => s8_1 a b
  | 8, _, 2, _ => s8_2 a b
  | 8, _, 3, _ => s8_3 a b
  | 8, _, 4, _ => s8_4 a b
  | 8, _, 5, _ => s8_5 a b
  | 8, _, 6, _ => s8_6 a b
  | 8, _, 7, _ => s8_7 a b
  | 9, _, 0, _ => s9_0 a b
  | 9, _, 1, _ => s9_1 a b
  | 9, _, 2, _ => s9_2 a b
  | 9, _, 3, _ => s9_3 a b
  | 9, _, 4, _ => s9_4 a b
  | 9, _, 5, _ => s9_5 a b
  | 9, _, 6, _ => s9_6 a b
  | 9, _, 7, _ => s9_7 a b
  | 10, _, 0, _ => s10_0 a b
  | 10, _, 1, _ => s10_1 a b
  | 10, _, 2, _ => s10_2 a b
  | 10, _, 3, _ => s10_3 a b
  | 10, _, 4, _ => s10_4 a b
  | 10, _, 5, _ => s10_5 a b
  | 10, _, 6, _ => s10_6 a b
  | 10, _, 7, _ => s10_7 a b
  | 11, _, 0, _ => s11_0 a b
  | 11, _, 1, _ => s11_1 a b
  | 11, _, 2, _ => s11_2 a b
  | 11, _, 3, _ => s11_3 a b
  | 11, _, 4, _ => s11_4 a b
  | 11, _, 5, _ => s11_5 a b
  | 11, _, 6, _ => s11_6 a b
  | 11, _, 7, _ => s11_7 a b
  | 12, _, 0, _ => s12_0 a b
  | 12, _, 1, _ => s12_1 a b
  | 12, _, 2, _ => s12_2 a b
  | 12, _, 3, _ => s12_3 a b
  | 12, _, 4, _ => s12_4 a b
  | 12, _, 5, _ => s12_5 a b
  | 12, _, 6, _ => s12_6 a b
  | 12, _, 7, _ => s12_7 a b
  | 13, _, 0, _ => s13_0 a b
  | 13, _, 1, _ => s13_1 a b
  | 13, _, 2, _ => s13_2 a b
  | 13, _, 3, _ => s13_3 a b
  | 13, _, 4, _ => s13_4 a b
  | 13, _, 5, _ => s13_5 a b
  | 13, _, 6, _ => s13_6 a b
  | 13, _, 7, _ => s13_7 a b
  | 14, _, 0, _ => s14_0 a b
  | 14, _, 1, _ => s14_1 a b
  | 14, _, 2, _ => s14_2 a b
  | 14, _, 3, _ => s14_3 a b
  | 14, _, 4, _ => s14_4 a b
  | 14, _, 5, _ => s14_5 a b
  | 14, _, 6, _ => s14_6 a b
  | 14, _, 7, _ => s14_7 a b
  | 15, _, 0, _ => s15_0 a b
  | 15, _, 1, _ => s15_1 a b
  | 15, _, 2, _ => s15_2 a b
  | 15, _, 3, _ => s15_3 a b
  | 15, _, 4, _ => s15_4 a b
  | 15, _, 5, _ => s15_5 a b
  | 15, _, 6, _ => s15_6 a b
  | 15, _, 7, _ => s15_7 a b
  | 16, _, 0, _ => s16_0 a b
  | 16, _, 1, _ => s16_1 a b
  | 16, _, 2, _ => s16_2 a b
  | 16, _, 3, _ => s16_3 a b
  | 16, _, 4, _ => s16_4 a b
  | 16, _, 5, _ => s16_5 a b
  | 16, _, 6, _ => s16_6 a b
  | 16, _, 7, _ => s16_7 a b
  | 17, _, 0, _ => s17_0 a b
  | 17, _, 1, _ => s17_1 a b
  | 17, _, 2, _ => s17_2 a b
  | 17, _, 3, _ => s17_3 a b
  | 17, _, 4, _ => s17_4 a b
  | 17, _, 5, _ => s17_5 a b
  | 17, _, 6, _ => s17_6 a b
  | 17, _, 7, _ => s17_7 a b
  | 18, _, 0, _ => s18_0 a b
  | 18, _, 1, _ => s18_1 a b
  | 18, _, 2, _ => s18_2 a b
  | 18, _, 3, _ => s18_3 a b
  | 18, _, 4, _ => s18_4 a b
  | 18, _, 5, _ => s18_5 a b
  | 18, _, 6, _ => s18_6 a b
  | 18, _, 7, _ => s18_7 a b
  | 19, _, 0, _ => s19_0 a b
  | 19, _, 1, _ => s19_1 a b
  | 19, _, 2, _ => s19_2 a b
  | 19, _, 3, _ => s19_3 a b
  | 19, _, 4, _ => s19_4 a b
  | 19, _, 5, _ => s19_5 a b
  | 19, _, 6, _ => s19_6 a b
  | 19, _, 7, _ => s19_7 a b
  | n + 20, h, _, _ => absurd h (by omega)
  | _, _, n + 8, h => absurd h (by omega)
/-- TopStates. -/
theorem f11 (A : AH) (args : List V) (h : HasA A [.one (.i .i64), .one (.i .i64)] args) : ACalls Tryz.prog W0 11 args A fun e _ => e = .ret (.b true) := by
  obtain ⟨a, _, rfl, ha, h1⟩ := h.invi
  obtain ⟨b, _, rfl, hb, h2⟩ := h1.invi
  rw [h2.inv0]
  refine (acalls_anywhere (v := .b true) rfl rfl fun W hW => ?_).mono fun e H h => h.1
  obtain ⟨l, hl, ok0⟩ := place a 20 (by omega) (by omega)
  obtain ⟨n, hn, ok1⟩ := place b 16 (by omega) (by omega)
  exact law11 a b l (2 * (n / 2)) 2 ok0 (OkD.part ok1 (by omega) (by omega)) (s_all a b l hl (n / 2) (by omega) ok0 _) W
end Go.Proofs.YtjaammiblfndaaaGreatDoor
