/- A part of the proof: contracts of functions, over the abstract machine. -/
import Derived.Test.YtceamnigcimldaaGreatDoorZw0
import Derived.Test.YtceamnigcimldaaGreatDoorZw1
import Derived.Test.YtceamnigcimldaaGreatDoorZw2
import Derived.Test.YtceamnigcimldaaGreatDoorZw3
import Derived.Test.YtceamnigcimldaaGreatDoorZw4
import Derived.Test.YtceamnigcimldaaGreatDoorZw5
import Derived.Test.YtceamnigcimldaaGreatDoorZw6
import Derived.Test.YtceamnigcimldaaGreatDoorZw7
import Derived.Test.YtceamnigcimldaaGreatDoorZw8
import Derived.Test.YtceamnigcimldaaGreatDoorZw9
import Derived.Test.YtceamnigcimldaaGreatDoorZw10
import Derived.Test.YtceamnigcimldaaGreatDoorZw11
set_option linter.unusedVariables false
set_option linter.unusedSimpArgs false
set_option linter.all false
/- The law RuleWrong. -/
namespace Go.Proofs.YtceamnigcimldaaGreatDoor
open Ram Go

variable {W0 : World} {H : AH}

/-- rampartlaw00.Place. -/
theorem f26 {n m : Int} (hm : 0 < m) (hm' : m ≤ 4611686018427387904) : ACalls Tryz.prog W0 26 [.i .i64 n, .i .i64 m] H fun e H' => e = .ret (.i .i64 (n % m)) ∧ H = H' := by
  refine acalls_by k26 (by simp) ?_
  have h0 : ¬ m = 0 := by omega
  have hlt := Int.tmod_lt_of_pos n hm
  by_cases h1 : n.tmod m < 0
  · have : n % m = n.tmod m + m := by
      rw [Int.tmod_eq_emod] at h1 ⊢
      split at h1
      · have := Int.emod_nonneg n h0; omega
      · next h => rw [if_neg h]; omega
    simp -dsimp [h0, h1]
    have hb := Int.emod_nonneg n h0
    have hb' := Int.emod_lt_of_pos n hm
    rw [wrap_i64 (by omega) (by omega), this]
  · have : n % m = n.tmod m := by
      rw [Int.tmod_eq_emod] at h1 ⊢
      split
      · omega
      · next h => rw [if_neg h] at h1; have := Int.emod_lt_of_pos n hm; omega
    simp -dsimp [h0, h1, this]

theorem wrong_all (a b : Int) : ∀ k, k < 12 → ∀ n, n < 5 → wrongOk a b k n = true
  | 0, _ => w0 a b
  | 1, _ => w1 a b
  | 2, _ => w2 a b
  | 3, _ => w3 a b
  | 4, _ => w4 a b
  | 5, _ => w5 a b
  | 6, _ => w6 a b
  | 7, _ => w7 a b
  | 8, _ => w8 a b
  | 9, _ => w9 a b
  | 10, _ => w10 a b
  | 11, _ => w11 a b
  | k + 12, h => absurd h (by omega)

/-- The law RuleWrong. -/
theorem f5 (A : AH) (args : List V) (h : HasA A [.one (.i .i64), .one (.i .i64)] args) : ACalls Tryz.prog W0 5 args A fun e _ => e = .ret (.b true) := by
  obtain ⟨a, _, rfl, ha, h⟩ := h.invi
  obtain ⟨b, _, rfl, hb, h⟩ := h.invi
  rw [h.inv0]
  refine (acalls_anywhere (v := .b true) rfl rfl fun W hW => ?_).mono fun e H h => h.1
  refine acalls_of k5 (by simp) ?_
  rw [awp_assoc, awp_assoc]
  refine awp_cut (fun env H => env = wrongEnv a b (a % 12) (b % 5) ∧ H = AH.none) ?_ ?_
  · simp -dsimp
    refine (f26 (by omega) (by omega)).next ?_
    rintro _ rfl
    simp -dsimp
    refine (f26 (by omega) (by omega)).next ?_
    rintro _ rfl
    simp -dsimp
    exact hold_mk ⟨rfl, rfl⟩
  · rintro _ _ ⟨rfl, rfl⟩
    obtain ⟨k, hk⟩ : ∃ k : Nat, a % 12 = k := ⟨(a % 12).toNat, by omega⟩
    obtain ⟨n, hn⟩ : ∃ n : Nat, b % 5 = n := ⟨(b % 5).toNat, by omega⟩
    have hk7 : k < 12 := by omega
    have hn7 : n < 5 := by omega
    rw [hk, hn]
    refine evCode_sound (rounds := 5000) call2_ok (post_told ?_)
    exact wrong_all a b k hk7 n hn7
end Go.Proofs.YtceamnigcimldaaGreatDoor
