/- A part of the proof: contracts of functions, over the abstract machine. -/
import Derived.Test.YtjaammiblfndaaaGreatDoorFzT0
import Derived.Test.YtjaammiblfndaaaGreatDoorFzT1
import Derived.Test.YtjaammiblfndaaaGreatDoorFzT2
import Derived.Test.YtjaammiblfndaaaGreatDoorFzT3
import Derived.Test.YtjaammiblfndaaaGreatDoorFzT4
import Derived.Test.YtjaammiblfndaaaGreatDoorFzT5
import Derived.Test.YtjaammiblfndaaaGreatDoorFzT6
import Derived.Test.YtjaammiblfndaaaGreatDoorFzT7
import Derived.Test.YtjaammiblfndaaaGreatDoorFzT8
import Derived.Test.YtjaammiblfndaaaGreatDoorFzT9
import Derived.Test.YtjaammiblfndaaaGreatDoorFzT10
import Derived.Test.YtjaammiblfndaaaGreatDoorFzT11
import Derived.Test.YtjaammiblfndaaaGreatDoorFzT12
import Derived.Test.YtjaammiblfndaaaGreatDoorFzT13
import Derived.Test.YtjaammiblfndaaaGreatDoorFzT14
set_option linter.unusedVariables false
set_option linter.unusedSimpArgs false
set_option linter.all false
/- The law. -/
namespace Go.Proofs.YtjaammiblfndaaaGreatDoor
open Ram Go
variable {W0 : World}
theorem u0_0 (a b c : Int) (v1 : V) (r : Nat) (h : r < 1) : ∃ lo cnt, lo ≤ r ∧ r < lo + cnt ∧ ∀ ok0 ok1 ok2, run4 a b c v1 0 0 lo cnt ok0 ok1 ok2 = true :=
   ⟨0, 1, by omega, by omega, t0_0_0 a b c v1⟩
theorem u0_1 (a b c : Int) (v1 : V) (r : Nat) (h : r < 2) : ∃ lo cnt, lo ≤ r ∧ r < lo + cnt ∧ ∀ ok0 ok1 ok2, run4 a b c v1 0 1 lo cnt ok0 ok1 ok2 = true :=
   ⟨0, 2, by omega, by omega, t0_1_0 a b c v1⟩
theorem u0_2 (a b c : Int) (v1 : V) (r : Nat) (h : r < 3) : ∃ lo cnt, lo ≤ r ∧ r < lo + cnt ∧ ∀ ok0 ok1 ok2, run4 a b c v1 0 2 lo cnt ok0 ok1 ok2 = true :=
   ⟨0, 3, by omega, by omega, t0_2_0 a b c v1⟩
theorem u0_3 (a b c : Int) (v1 : V) (r : Nat) (h : r < 4) : ∃ lo cnt, lo ≤ r ∧ r < lo + cnt ∧ ∀ ok0 ok1 ok2, run4 a b c v1 0 3 lo cnt ok0 ok1 ok2 = true :=
   ⟨0, 4, by omega, by omega, t0_3_0 a b c v1⟩
theorem u0_4 (a b c : Int) (v1 : V) (r : Nat) (h : r < 5) : ∃ lo cnt, lo ≤ r ∧ r < lo + cnt ∧ ∀ ok0 ok1 ok2, run4 a b c v1 0 4 lo cnt ok0 ok1 ok2 = true :=
   ⟨0, 5, by omega, by omega, t0_4_0 a b c v1⟩
theorem u0_5 (a b c : Int) (v1 : V) (r : Nat) (h : r < 6) : ∃ lo cnt, lo ≤ r ∧ r < lo + cnt ∧ ∀ ok0 ok1 ok2, run4 a b c v1 0 5 lo cnt ok0 ok1 ok2 = true :=
  if h0 : r < 5 then ⟨0, 5, by omega, by omega, t0_5_0 a b c v1⟩ else  ⟨5, 1, by omega, by omega, t0_5_5 a b c v1⟩
theorem u0_6 (a b c : Int) (v1 : V) (r : Nat) (h : r < 7) : ∃ lo cnt, lo ≤ r ∧ r < lo + cnt ∧ ∀ ok0 ok1 ok2, run4 a b c v1 0 6 lo cnt ok0 ok1 ok2 = true :=
  if h0 : r < 5 then ⟨0, 5, by omega, by omega, t0_6_0 a b c v1⟩ else  ⟨5, 2, by omega, by omega, t0_6_5 a b c v1⟩
theorem u0_7 (a b c : Int) (v1 : V) (r : Nat) (h : r < 8) : ∃ lo cnt, lo ≤ r ∧ r < lo + cnt ∧ ∀ ok0 ok1 ok2, run4 a b c v1 0 7 lo cnt ok0 ok1 ok2 = true :=
  if h0 : r < 5 then ⟨0, 5, by omega, by omega, t0_7_0 a b c v1⟩ else  ⟨5, 3, by omega, by omega, t0_7_5 a b c v1⟩
theorem u0_8 (a b c : Int) (v1 : V) (r : Nat) (h : r < 9) : ∃ lo cnt, lo ≤ r ∧ r < lo + cnt ∧ ∀ ok0 ok1 ok2, run4 a b c v1 0 8 lo cnt ok0 ok1 ok2 = true :=
  if h0 : r < 5 then ⟨0, 5, by omega, by omega, t0_8_0 a b c v1⟩ else  ⟨5, 4, by omega, by omega, t0_8_5 a b c v1⟩
theorem u0_9 (a b c : Int) (v1 : V) (r : Nat) (h : r < 10) : ∃ lo cnt, lo ≤ r ∧ r < lo + cnt ∧ ∀ ok0 ok1 ok2, run4 a b c v1 0 9 lo cnt ok0 ok1 ok2 = true :=
  if h0 : r < 5 then ⟨0, 5, by omega, by omega, t0_9_0 a b c v1⟩ else  ⟨5, 5, by omega, by omega, t0_9_5 a b c v1⟩
theorem u0_10 (a b c : Int) (v1 : V) (r : Nat) (h : r < 11) : ∃ lo cnt, lo ≤ r ∧ r < lo + cnt ∧ ∀ ok0 ok1 ok2, run4 a b c v1 0 10 lo cnt ok0 ok1 ok2 = true :=
  if h0 : r < 5 then ⟨0, 5, by omega, by omega, t0_10_0 a b c v1⟩ else if h5 : r < 10 then ⟨5, 5, by omega, by omega, t0_10_5 a b c v1⟩ else  ⟨10, 1, by omega, by omega, t0_10_10 a b c v1⟩
theorem u0_11 (a b c : Int) (v1 : V) (r : Nat) (h : r < 12) : ∃ lo cnt, lo ≤ r ∧ r < lo + cnt ∧ ∀ ok0 ok1 ok2, run4 a b c v1 0 11 lo cnt ok0 ok1 ok2 = true :=
  if h0 : r < 5 then ⟨0, 5, by omega, by omega, t0_11_0 a b c v1⟩ else if h5 : r < 10 then ⟨5, 5, by omega, by omega, t0_11_5 a b c v1⟩ else  ⟨10, 2, by omega, by omega, t0_11_10 a b c v1⟩
theorem u0_12 (a b c : Int) (v1 : V) (r : Nat) (h : r < 13) : ∃ lo cnt, lo ≤ r ∧ r < lo + cnt ∧ ∀ ok0 ok1 ok2, run4 a b c v1 0 12 lo cnt ok0 ok1 ok2 = true :=
  if h0 : r < 5 then ⟨0, 5, by omega, by omega, t0_12_0 a b c v1⟩ else if h5 : r < 10 then ⟨5, 5, by omega, by omega, t0_12_5 a b c v1⟩ else  ⟨10, 3, by omega, by omega, t0_12_10 a b c v1⟩
theorem u0_13 (a b c : Int) (v1 : V) (r : Nat) (h : r < 14) : ∃ lo cnt, lo ≤ r ∧ r < lo + cnt ∧ ∀ ok0 ok1 ok2, run4 a b c v1 0 13 lo cnt ok0 ok1 ok2 = true :=
  if h0 : r < 5 then ⟨0, 5, by omega, by omega, t0_13_0 a b c v1⟩ else if h5 : r < 10 then ⟨5, 5, by omega, by omega, t0_13_5 a b c v1⟩ else  ⟨10, 4, by omega, by omega, t0_13_10 a b c v1⟩
theorem u0_14 (a b c : Int) (v1 : V) (r : Nat) (h : r < 15) : ∃ lo cnt, lo ≤ r ∧ r < lo + cnt ∧ ∀ ok0 ok1 ok2, run4 a b c v1 0 14 lo cnt ok0 ok1 ok2 = true :=
  if h0 : r < 5 then ⟨0, 5, by omega, by omega, t0_14_0 a b c v1⟩ else if h5 : r < 10 then ⟨5, 5, by omega, by omega, t0_14_5 a b c v1⟩ else  ⟨10, 5, by omega, by omega, t0_14_10 a b c v1⟩
theorem u0_15 (a b c : Int) (v1 : V) (r : Nat) (h : r < 16) : ∃ lo cnt, lo ≤ r ∧ r < lo + cnt ∧ ∀ ok0 ok1 ok2, run4 a b c v1 0 15 lo cnt ok0 ok1 ok2 = true :=
  if h0 : r < 5 then ⟨0, 5, by omega, by omega, t0_15_0 a b c v1⟩ else if h5 : r < 10 then ⟨5, 5, by omega, by omega, t0_15_5 a b c v1⟩ else if h10 : r < 15 then ⟨10, 5, by omega, by omega, t0_15_10 a b c v1⟩ else  ⟨15, 1, by omega, by omega, t0_15_15 a b c v1⟩
theorem u0_16 (a b c : Int) (v1 : V) (r : Nat) (h : r < 17) : ∃ lo cnt, lo ≤ r ∧ r < lo + cnt ∧ ∀ ok0 ok1 ok2, run4 a b c v1 0 16 lo cnt ok0 ok1 ok2 = true :=
  if h0 : r < 5 then ⟨0, 5, by omega, by omega, t0_16_0 a b c v1⟩ else if h5 : r < 10 then ⟨5, 5, by omega, by omega, t0_16_5 a b c v1⟩ else if h10 : r < 15 then ⟨10, 5, by omega, by omega, t0_16_10 a b c v1⟩ else  ⟨15, 2, by omega, by omega, t0_16_15 a b c v1⟩
theorem u0_17 (a b c : Int) (v1 : V) (r : Nat) (h : r < 18) : ∃ lo cnt, lo ≤ r ∧ r < lo + cnt ∧ ∀ ok0 ok1 ok2, run4 a b c v1 0 17 lo cnt ok0 ok1 ok2 = true :=
  if h0 : r < 5 then ⟨0, 5, by omega, by omega, t0_17_0 a b c v1⟩ else if h5 : r < 10 then ⟨5, 5, by omega, by omega, t0_17_5 a b c v1⟩ else if h10 : r < 15 then ⟨10, 5, by omega, by omega, t0_17_10 a b c v1⟩ else  ⟨15, 3, by omega, by omega, t0_17_15 a b c v1⟩
theorem u0_18 (a b c : Int) (v1 : V) (r : Nat) (h : r < 19) : ∃ lo cnt, lo ≤ r ∧ r < lo + cnt ∧ ∀ ok0 ok1 ok2, run4 a b c v1 0 18 lo cnt ok0 ok1 ok2 = true :=
  if h0 : r < 5 then ⟨0, 5, by omega, by omega, t0_18_0 a b c v1⟩ else if h5 : r < 10 then ⟨5, 5, by omega, by omega, t0_18_5 a b c v1⟩ else if h10 : r < 15 then ⟨10, 5, by omega, by omega, t0_18_10 a b c v1⟩ else  ⟨15, 4, by omega, by omega, t0_18_15 a b c v1⟩
theorem u0_19 (a b c : Int) (v1 : V) (r : Nat) (h : r < 20) : ∃ lo cnt, lo ≤ r ∧ r < lo + cnt ∧ ∀ ok0 ok1 ok2, run4 a b c v1 0 19 lo cnt ok0 ok1 ok2 = true :=
  if h0 : r < 5 then ⟨0, 5, by omega, by omega, t0_19_0 a b c v1⟩ else if h5 : r < 10 then ⟨5, 5, by omega, by omega, t0_19_5 a b c v1⟩ else if h10 : r < 15 then ⟨10, 5, by omega, by omega, t0_19_10 a b c v1⟩ else  ⟨15, 5, by omega, by omega, t0_19_15 a b c v1⟩
theorem u1_0 (a b c : Int) (v1 : V) (r : Nat) (h : r < 1) : ∃ lo cnt, lo ≤ r ∧ r < lo + cnt ∧ ∀ ok0 ok1 ok2, run4 a b c v1 1 0 lo cnt ok0 ok1 ok2 = true :=
   ⟨0, 1, by omega, by omega, t1_0_0 a b c v1⟩
theorem u1_1 (a b c : Int) (v1 : V) (r : Nat) (h : r < 2) : ∃ lo cnt, lo ≤ r ∧ r < lo + cnt ∧ ∀ ok0 ok1 ok2, run4 a b c v1 1 1 lo cnt ok0 ok1 ok2 = true :=
   ⟨0, 2, by omega, by omega, t1_1_0 a b c v1⟩
theorem u1_2 (a b c : Int) (v1 : V) (r : Nat) (h : r < 3) : ∃ lo cnt, lo ≤ r ∧ r < lo + cnt ∧ ∀ ok0 ok1 ok2, run4 a b c v1 1 2 lo cnt ok0 ok1 ok2 = true :=
   ⟨0, 3, by omega, by omega, t1_2_0 a b c v1⟩
theorem u1_3 (a b c : Int) (v1 : V) (r : Nat) (h : r < 4) : ∃ lo cnt, lo ≤ r ∧ r < lo + cnt ∧ ∀ ok0 ok1 ok2, run4 a b c v1 1 3 lo cnt ok0 ok1 ok2 = true :=
   ⟨0, 4, by omega, by omega, t1_3_0 a b c v1⟩
theorem u1_4 (a b c : Int) (v1 : V) (r : Nat) (h : r < 5) : ∃ lo cnt, lo ≤ r ∧ r < lo + cnt ∧ ∀ ok0 ok1 ok2, run4 a b c v1 1 4 lo cnt ok0 ok1 ok2 = true :=
   ⟨0, 5, by omega, by omega, t1_4_0 a b c v1⟩
theorem u1_5 (a b c : Int) (v1 : V) (r : Nat) (h : r < 6) : ∃ lo cnt, lo ≤ r ∧ r < lo + cnt ∧ ∀ ok0 ok1 ok2, run4 a b c v1 1 5 lo cnt ok0 ok1 ok2 = true :=
  if h0 : r < 5 then ⟨0, 5, by omega, by omega, t1_5_0 a b c v1⟩ else  ⟨5, 1, by omega, by omega, t1_5_5 a b c v1⟩
theorem u1_6 (a b c : Int) (v1 : V) (r : Nat) (h : r < 7) : ∃ lo cnt, lo ≤ r ∧ r < lo + cnt ∧ ∀ ok0 ok1 ok2, run4 a b c v1 1 6 lo cnt ok0 ok1 ok2 = true :=
  if h0 : r < 5 then ⟨0, 5, by omega, by omega, t1_6_0 a b c v1⟩ else  ⟨5, 2, by omega, by omega, t1_6_5 a b c v1⟩
theorem u1_7 (a b c : Int) (v1 : V) (r : Nat) (h : r < 8) : ∃ lo cnt, lo ≤ r ∧ r < lo + cnt ∧ ∀ ok0 ok1 ok2, run4 a b c v1 1 7 lo cnt ok0 ok1 ok2 = true :=
  if h0 : r < 5 then ⟨0, 5, by omega, by omega, t1_7_0 a b c v1⟩ else  ⟨5, 3, by omega, by omega, t1_7_5 a b c v1⟩
theorem u1_8 (a b c : Int) (v1 : V) (r : Nat) (h : r < 9) : ∃ lo cnt, lo ≤ r ∧ r < lo + cnt ∧ ∀ ok0 ok1 ok2, run4 a b c v1 1 8 lo cnt ok0 ok1 ok2 = true :=
  if h0 : r < 5 then ⟨0, 5, by omega, by omega, t1_8_0 a b c v1⟩ else  ⟨5, 4, by omega, by omega, t1_8_5 a b c v1⟩
theorem u1_9 (a b c : Int) (v1 : V) (r : Nat) (h : r < 10) : ∃ lo cnt, lo ≤ r ∧ r < lo + cnt ∧ ∀ ok0 ok1 ok2, run4 a b c v1 1 9 lo cnt ok0 ok1 ok2 = true :=
  if h0 : r < 5 then ⟨0, 5, by omega, by omega, t1_9_0 a b c v1⟩ else  ⟨5, 5, by omega, by omega, t1_9_5 a b c v1⟩
theorem u1_10 (a b c : Int) (v1 : V) (r : Nat) (h : r < 11) : ∃ lo cnt, lo ≤ r ∧ r < lo + cnt ∧ ∀ ok0 ok1 ok2, run4 a b c v1 1 10 lo cnt ok0 ok1 ok2 = true :=
  if h0 : r < 5 then ⟨0, 5, by omega, by omega, t1_10_0 a b c v1⟩ else if h5 : r < 10 then ⟨5, 5, by omega, by omega, t1_10_5 a b c v1⟩ else  ⟨10, 1, by omega, by omega, t1_10_10 a b c v1⟩
theorem u1_11 (a b c : Int) (v1 : V) (r : Nat) (h : r < 12) : ∃ lo cnt, lo ≤ r ∧ r < lo + cnt ∧ ∀ ok0 ok1 ok2, run4 a b c v1 1 11 lo cnt ok0 ok1 ok2 = true :=
  if h0 : r < 5 then ⟨0, 5, by omega, by omega, t1_11_0 a b c v1⟩ else if h5 : r < 10 then ⟨5, 5, by omega, by omega, t1_11_5 a b c v1⟩ else  ⟨10, 2, by omega, by omega, t1_11_10 a b c v1⟩
theorem u1_12 (a b c : Int) (v1 : V) (r : Nat) (h : r < 13) : ∃ lo cnt, lo ≤ r ∧ r < lo + cnt ∧ ∀ ok0 ok1 ok2, run4 a b c v1 1 12 lo cnt ok0 ok1 ok2 = true :=
  if h0 : r < 5 then ⟨0, 5, by omega, by omega, t1_12_0 a b c v1⟩ else if h5 : r < 10 then ⟨5, 5, by omega, by omega, t1_12_5 a b c v1⟩ else  ⟨10, 3, by omega, by omega, t1_12_10 a b c v1⟩
theorem u1_13 (a b c : Int) (v1 : V) (r : Nat) (h : r < 14) : ∃ lo cnt, lo ≤ r ∧ r < lo + cnt ∧ ∀ ok0 ok1 ok2, run4 a b c v1 1 13 lo cnt ok0 ok1 ok2 = true :=
  if h0 : r < 5 then ⟨0, 5, by omega, by omega, t1_13_0 a b c v1⟩ else if h5 : r < 10 then ⟨5, 5, by omega, by omega, t1_13_5 a b c v1⟩ else  ⟨10, 4, by omega, by omega, t1_13_10 a b c v1⟩
theorem u1_14 (a b c : Int) (v1 : V) (r : Nat) (h : r < 15) : ∃ lo cnt, lo ≤ r ∧ r < lo + cnt ∧ ∀ ok0 ok1 ok2, run4 a b c v1 1 14 lo cnt ok0 ok1 ok2 = true :=
  if h0 : r < 5 then ⟨0, 5, by omega, by omega, t1_14_0 a b c v1⟩ else if h5 : r < 10 then ⟨5, 5, by omega, by omega, t1_14_5 a b c v1⟩ else  ⟨10, 5, by omega, by omega, t1_14_10 a b c v1⟩
theorem u1_15 (a b c : Int) (v1 : V) (r : Nat) (h : r < 16) : ∃ lo cnt, lo ≤ r ∧ r < lo + cnt ∧ ∀ ok0 ok1 ok2, run4 a b c v1 1 15 lo cnt ok0 ok1 ok2 = true :=
  if h0 : r < 5 then ⟨0, 5, by omega, by omega, t1_15_0 a b c v1⟩ else if h5 : r < 10 then ⟨5, 5, by omega, by omega, t1_15_5 a b c v1⟩ else if h10 : r < 15 then ⟨10, 5, by omega, by omega, t1_15_10 a b c v1⟩ else  ⟨15, 1, by omega, by omega, t1_15_15 a b c v1⟩
theorem u1_16 (a b c : Int) (v1 : V) (r : Nat) (h : r < 17) : ∃ lo cnt, lo ≤ r ∧ r < lo + cnt ∧ ∀ ok0 ok1 ok2, run4 a b c v1 1 16 lo cnt ok0 ok1 ok2 = true :=
  if h0 : r < 5 then ⟨0, 5, by omega, by omega, t1_16_0 a b c v1⟩ else if h5 : r < 10 then ⟨5, 5, by omega, by omega, t1_16_5 a b c v1⟩ else if h10 : r < 15 then ⟨10, 5, by omega, by omega, t1_16_10 a b c v1⟩ else  ⟨15, 2, by omega, by omega, t1_16_15 a b c v1⟩
theorem u1_17 (a b c : Int) (v1 : V) (r : Nat) (h : r < 18) : ∃ lo cnt, lo ≤ r ∧ r < lo + cnt ∧ ∀ ok0 ok1 ok2, run4 a b c v1 1 17 lo cnt ok0 ok1 ok2 = true :=
  if h0 : r < 5 then ⟨0, 5, by omega, by omega, t1_17_0 a b c v1⟩ else if h5 : r < 10 then ⟨5, 5, by omega, by omega, t1_17_5 a b c v1⟩ else if h10 : r < 15 then ⟨10, 5, by omega, by omega, t1_17_10 a b c v1⟩ else  ⟨15, 3, by omega, by omega, t1_17_15 a b c v1⟩
theorem u1_18 (a b c : Int) (v1 : V) (r : Nat) (h : r < 19) : ∃ lo cnt, lo ≤ r ∧ r < lo + cnt ∧ ∀ ok0 ok1 ok2, run4 a b c v1 1 18 lo cnt ok0 ok1 ok2 = true :=
  if h0 : r < 5 then ⟨0, 5, by omega, by omega, t1_18_0 a b c v1⟩ else if h5 : r < 10 then ⟨5, 5, by omega, by omega, t1_18_5 a b c v1⟩ else if h10 : r < 15 then ⟨10, 5, by omega, by omega, t1_18_10 a b c v1⟩ else  ⟨15, 4, by omega, by omega, t1_18_15 a b c v1⟩
theorem u1_19 (a b c : Int) (v1 : V) (r : Nat) (h : r < 20) : ∃ lo cnt, lo ≤ r ∧ r < lo + cnt ∧ ∀ ok0 ok1 ok2, run4 a b c v1 1 19 lo cnt ok0 ok1 ok2 = true :=
  if h0 : r < 5 then ⟨0, 5, by omega, by omega, t1_19_0 a b c v1⟩ else if h5 : r < 10 then ⟨5, 5, by omega, by omega, t1_19_5 a b c v1⟩ else if h10 : r < 15 then ⟨10, 5, by omega, by omega, t1_19_10 a b c v1⟩ else  ⟨15, 5, by omega, by omega, t1_19_15 a b c v1⟩
theorem u2_0 (a b c : Int) (v1 : V) (r : Nat) (h : r < 1) : ∃ lo cnt, lo ≤ r ∧ r < lo + cnt ∧ ∀ ok0 ok1 ok2, run4 a b c v1 2 0 lo cnt ok0 ok1 ok2 = true :=
   ⟨0, 1, by omega, by omega, t2_0_0 a b c v1⟩
theorem u2_1 (a b c : Int) (v1 : V) (r : Nat) (h : r < 2) : ∃ lo cnt, lo ≤ r ∧ r < lo + cnt ∧ ∀ ok0 ok1 ok2, run4 a b c v1 2 1 lo cnt ok0 ok1 ok2 = true :=
   ⟨0, 2, by omega, by omega, t2_1_0 a b c v1⟩
theorem u2_2 (a b c : Int) (v1 : V) (r : Nat) (h : r < 3) : ∃ lo cnt, lo ≤ r ∧ r < lo + cnt ∧ ∀ ok0 ok1 ok2, run4 a b c v1 2 2 lo cnt ok0 ok1 ok2 = true :=
   ⟨0, 3, by omega, by omega, t2_2_0 a b c v1⟩
theorem u2_3 (a b c : Int) (v1 : V) (r : Nat) (h : r < 4) : ∃ lo cnt, lo ≤ r ∧ r < lo + cnt ∧ ∀ ok0 ok1 ok2, run4 a b c v1 2 3 lo cnt ok0 ok1 ok2 = true :=
   ⟨0, 4, by omega, by omega, t2_3_0 a b c v1⟩
theorem u2_4 (a b c : Int) (v1 : V) (r : Nat) (h : r < 5) : ∃ lo cnt, lo ≤ r ∧ r < lo + cnt ∧ ∀ ok0 ok1 ok2, run4 a b c v1 2 4 lo cnt ok0 ok1 ok2 = true :=
   ⟨0, 5, by omega, by omega, t2_4_0 a b c v1⟩
theorem u2_5 (a b c : Int) (v1 : V) (r : Nat) (h : r < 6) : ∃ lo cnt, lo ≤ r ∧ r < lo + cnt ∧ ∀ ok0 ok1 ok2, run4 a b c v1 2 5 lo cnt ok0 ok1 ok2 = true :=
  if h0 : r < 5 then ⟨0, 5, by omega, by omega, t2_5_0 a b c v1⟩ else  ⟨5, 1, by omega, by omega, t2_5_5 a b c v1⟩
theorem u2_6 (a b c : Int) (v1 : V) (r : Nat) (h : r < 7) : ∃ lo cnt, lo ≤ r ∧ r < lo + cnt ∧ ∀ ok0 ok1 ok2, run4 a b c v1 2 6 lo cnt ok0 ok1 ok2 = true :=
  if h0 : r < 5 then ⟨0, 5, by omega, by omega, t2_6_0 a b c v1⟩ else  ⟨5, 2, by omega, by omega, t2_6_5 a b c v1⟩
theorem u2_7 (a b c : Int) (v1 : V) (r : Nat) (h : r < 8) : ∃ lo cnt, lo ≤ r ∧ r < lo + cnt ∧ ∀ ok0 ok1 ok2, run4 a b c v1 2 7 lo cnt ok0 ok1 ok2 = true :=
  if h0 : r < 5 then ⟨0, 5, by omega, by omega, t2_7_0 a b c v1⟩ else  ⟨5, 3, by omega, by omega, t2_7_5 a b c v1⟩
theorem u2_8 (a b c : Int) (v1 : V) (r : Nat) (h : r < 9) : ∃ lo cnt, lo ≤ r ∧ r < lo + cnt ∧ ∀ ok0 ok1 ok2, run4 a b c v1 2 8 lo cnt ok0 ok1 ok2 = true :=
  if h0 : r < 5 then ⟨0, 5, by omega, by omega, t2_8_0 a b c v1⟩ else  ⟨5, 4, by omega, by omega, t2_8_5 a b c v1⟩
theorem u2_9 (a b c : Int) (v1 : V) (r : Nat) (h : r < 10) : ∃ lo cnt, lo ≤ r ∧ r < lo + cnt ∧ ∀ ok0 ok1 ok2, run4 a b c v1 2 9 lo cnt ok0 ok1 ok2 = true :=
  if h0 : r < 5 then ⟨0, 5, by omega, by omega, t2_9_0 a b c v1⟩ else  ⟨5, 5, by omega, by omega, t2_9_5 a b c v1⟩
theorem u2_10 (a b c : Int) (v1 : V) (r : Nat) (h : r < 11) : ∃ lo cnt, lo ≤ r ∧ r < lo + cnt ∧ ∀ ok0 ok1 ok2, run4 a b c v1 2 10 lo cnt ok0 ok1 ok2 = true :=
  if h0 : r < 5 then ⟨0, 5, by omega, by omega, t2_10_0 a b c v1⟩ else if h5 : r < 10 then ⟨5, 5, by omega, by omega, t2_10_5 a b c v1⟩ else  ⟨10, 1, by omega, by omega, t2_10_10 a b c v1⟩
theorem u2_11 (a b c : Int) (v1 : V) (r : Nat) (h : r < 12) : ∃ lo cnt, lo ≤ r ∧ r < lo + cnt ∧ ∀ ok0 ok1 ok2, run4 a b c v1 2 11 lo cnt ok0 ok1 ok2 = true :=
  if h0 : r < 5 then ⟨0, 5, by omega, by omega, t2_11_0 a b c v1⟩ else if h5 : r < 10 then ⟨5, 5, by omega, by omega, t2_11_5 a b c v1⟩ else  ⟨10, 2, by omega, by omega, t2_11_10 a b c v1⟩
theorem u2_12 (a b c : Int) (v1 : V) (r : Nat) (h : r < 13) : ∃ lo cnt, lo ≤ r ∧ r < lo + cnt ∧ ∀ ok0 ok1 ok2, run4 a b c v1 2 12 lo cnt ok0 ok1 ok2 = true :=
  if h0 : r < 5 then ⟨0, 5, by omega, by omega, t2_12_0 a b c v1⟩ else if h5 : r < 10 then ⟨5, 5, by omega, by omega, t2_12_5 a b c v1⟩ else  ⟨10, 3, by omega, by omega, t2_12_10 a b c v1⟩
theorem u2_13 (a b c : Int) (v1 : V) (r : Nat) (h : r < 14) : ∃ lo cnt, lo ≤ r ∧ r < lo + cnt ∧ ∀ ok0 ok1 ok2, run4 a b c v1 2 13 lo cnt ok0 ok1 ok2 = true :=
  if h0 : r < 5 then ⟨0, 5, by omega, by omega, t2_13_0 a b c v1⟩ else if h5 : r < 10 then ⟨5, 5, by omega, by omega, t2_13_5 a b c v1⟩ else  ⟨10, 4, by omega, by omega, t2_13_10 a b c v1⟩
theorem u2_14 (a b c : Int) (v1 : V) (r : Nat) (h : r < 15) : ∃ lo cnt, lo ≤ r ∧ r < lo + cnt ∧ ∀ ok0 ok1 ok2, run4 a b c v1 2 14 lo cnt ok0 ok1 ok2 = true :=
  if h0 : r < 5 then ⟨0, 5, by omega, by omega, t2_14_0 a b c v1⟩ else if h5 : r < 10 then ⟨5, 5, by omega, by omega, t2_14_5 a b c v1⟩ else  ⟨10, 5, by omega, by omega, t2_14_10 a b c v1⟩
theorem u2_15 (a b c : Int) (v1 : V) (r : Nat) (h : r < 16) : ∃ lo cnt, lo ≤ r ∧ r < lo + cnt ∧ ∀ ok0 ok1 ok2, run4 a b c v1 2 15 lo cnt ok0 ok1 ok2 = true :=
  if h0 : r < 5 then ⟨0, 5, by omega, by omega, t2_15_0 a b c v1⟩ else if h5 : r < 10 then ⟨5, 5, by omega, by omega, t2_15_5 a b c v1⟩ else if h10 : r < 15 then ⟨10, 5, by omega, by omega, t2_15_10 a b c v1⟩ else  ⟨15, 1, by omega, by omega, t2_15_15 a b c v1⟩
theorem u2_16 (a b c : Int) (v1 : V) (r : Nat) (h : r < 17) : ∃ lo cnt, lo ≤ r ∧ r < lo + cnt ∧ ∀ ok0 ok1 ok2, run4 a b c v1 2 16 lo cnt ok0 ok1 ok2 = true :=
  if h0 : r < 5 then ⟨0, 5, by omega, by omega, t2_16_0 a b c v1⟩ else if h5 : r < 10 then ⟨5, 5, by omega, by omega, t2_16_5 a b c v1⟩ else if h10 : r < 15 then ⟨10, 5, by omega, by omega, t2_16_10 a b c v1⟩ else  ⟨15, 2, by omega, by omega, t2_16_15 a b c v1⟩
theorem u2_17 (a b c : Int) (v1 : V) (r : Nat) (h : r < 18) : ∃ lo cnt, lo ≤ r ∧ r < lo + cnt ∧ ∀ ok0 ok1 ok2, run4 a b c v1 2 17 lo cnt ok0 ok1 ok2 = true :=
  if h0 : r < 5 then ⟨0, 5, by omega, by omega, t2_17_0 a b c v1⟩ else if h5 : r < 10 then ⟨5, 5, by omega, by omega, t2_17_5 a b c v1⟩ else if h10 : r < 15 then ⟨10, 5, by omega, by omega, t2_17_10 a b c v1⟩ else  ⟨15, 3, by omega, by omega, t2_17_15 a b c v1⟩
theorem u2_18 (a b c : Int) (v1 : V) (r : Nat) (h : r < 19) : ∃ lo cnt, lo ≤ r ∧ r < lo + cnt ∧ ∀ ok0 ok1 ok2, run4 a b c v1 2 18 lo cnt ok0 ok1 ok2 = true :=
  if h0 : r < 5 then ⟨0, 5, by omega, by omega, t2_18_0 a b c v1⟩ else if h5 : r < 10 then ⟨5, 5, by omega, by omega, t2_18_5 a b c v1⟩ else if h10 : r < 15 then ⟨10, 5, by omega, by omega, t2_18_10 a b c v1⟩ else  ⟨15, 4, by omega, by omega, t2_18_15 a b c v1⟩
theorem u2_19 (a b c : Int) (v1 : V) (r : Nat) (h : r < 20) : ∃ lo cnt, lo ≤ r ∧ r < lo + cnt ∧ ∀ ok0 ok1 ok2, run4 a b c v1 2 19 lo cnt ok0 ok1 ok2 = true :=
  if h0 : r < 5 then ⟨0, 5, by omega, by omega, t2_19_0 a b c v1⟩ else if h5 : r < 10 then ⟨5, 5, by omega, by omega, t2_19_5 a b c v1⟩ else if h10 : r < 15 then ⟨10, 5, by omega, by omega, t2_19_10 a b c v1⟩ else  ⟨15, 5, by omega, by omega, t2_19_15 a b c v1⟩
theorem t_all (a b c : Int) (v1 : V) : ∀ l0 l1 r, l0 < 3 → l1 < 20 → r < l1 + 1 → ∃ lo cnt, lo ≤ r ∧ r < lo + cnt ∧ ∀ ok0 ok1 ok2, run4 a b c v1 l0 l1 lo cnt ok0 ok1 ok2 = true
  | 0, 0, r, _, _, h => u0_0 a b c v1 r h
  | 0, 1, r, _, _, h => u0_1 a b c v1 r h
  | 0, 2, r, _, _, h => u0_2 a b c v1 r h
  | 0, 3, r, _, _, h => u0_3 a b c v1 r h
  | 0, 4, r, _, _, h => u0_4 a b c v1 r h
  | 0, 5, r, _, _, h => u0_5 a b c v1 r h
  | 0, 6, r, _, _, h => u0_6 a b c v1 r h
  | 0, 7, r, _, _, h => u0_7 a b c v1 r h
  | 0, 8, r, _, _, h => u0_8 a b c v1 r h
  | 0, 9, r, _, _, h => u0_9 a b c v1 r h
  | 0, 10, r, _, _, h => u0_10 a b c v1 r h
  | 0, 11, r, _, _, h => u0_11 a b c v1 r h
  | 0, 12, r, _, _, h => u0_12 a b c v1 r h
  | 0, 13, r, _, _, h => u0_13 a b c v1 r h
  | 0, 14, r, _, _, h => u0_14 a b c v1 r h
  | 0, 15, r, _, _, h => u0_15 a b c v1 r h
  | 0, 16, r, _, _, h => u0_16 a b c v1 r h
  | 0, 17, r, _, _, h => u0_17 a b c v1 r h
  | 0, 18, r, _, _, h => u0_18 a b c v1 r h
  | 0, 19, r, _, _, h => u0_19 a b c v1 r h
  | 1, 0, r, _, _, h => u1_0 a b c v1 r h
  | 1, 1, r, _, _, h => u1_1 a b c v1 r h
  | 1, 2, r, _, _, h => u1_2 a b c v1 r h
  | 1, 3, r, _, _, h => u1_3 a b c v1 r h
  | 1, 4, r, _, _, h => u1_4 a b c v1 r h
  | 1, 5, r, _, _, h => u1_5 a b c v1 r h
  | 1, 6, r, _, _, h => u1_6 a b c v1 r h
  | 1, 7, r, _, _, h => u1_7 a b c v1 r h
  | 1, 8, r, _, _, h => u1_8 a b c v1 r h
  | 1, 9, r, _, _, h => u1_9 a b c v1 r h
  | 1, 10, r, _, _, h => u1_10 a b c v1 r h
  | 1, 11, r, _, _, h => u1_11 a b c v1 r h
  | 1, 12, r, _, _, h => u1_12 a b c v1 r h
  | 1, 13, r, _, _, h => u1_13 a b c v1 r h
  | 1, 14, r, _, _, h => u1_14 a b c v1 r h
  | 1, 15, r, _, _, h => u1_15 a b c v1 r h
  | 1, 16, r, _, _, h => u1_16 a b c v1 r h
  | 1, 17, r, _, _, h => u1_17 a b c v1 r h
  | 1, 18, r, _, _, h => u1_18 a b c v1 r h
  | 1, 19, r, _, _, h => u1_19 a b c v1 r h
  | 2, 0, r, _, _, h => u2_0 a b c v1 r h
  | 2, 1, r, _, _, h => u2_1 a b c v1 r h
  | 2, 2, r, _, _, h => u2_2 a b c v1 r h
  | 2, 3, r, _, _, h => u2_3 a b c v1 r h
  | 2, 4, r, _, _, h => u2_4 a b c v1 r h
  | 2, 5, r, _, _, h => u2_5 a b c v1 r h
  | 2, 6, r, _, _, h => u2_6 a b c v1 r h
  | 2, 7, r, _, _, h => u2_7 a b c v1 r h
  | 2, 8, r, _, _, h => u2_8 a b c v1 r h
  | 2, 9, r, _, _, h => u2_9 a b c v1 r h
  | 2, 10, r, _, _, h => u2_10 a b c v1 r h
  | 2, 11, r, _, _, h => u2_11 a b c v1 r h
  | 2, 12, r, _, _, h => u2_12 a b c v1 r h
  | 2, 13, r, _, _, h => u2_13 a b c v1 r h
  | 2, 14, r, _, _, h => u2_14 a b c v1 r h
  | 2, 15, r, _, _, h => u2_15 a b c v1 r h
  | 2, 16, r, _, _, h => u2_16 a b c v1 r h
  | 2, 17, r, _, _, h => u2_17 a b c v1 r h
  | 2, 18, r, _, _, h => u2_18 a b c v1 r h
  | 2, 19, r, _, _, h => u2_19 a b c v1 r h
  | n + 3, _, _, h, _, _ => absurd h (by omega)
  | _, n + 20, _, _, h, _ => absurd h (by omega)
/-- EngineStops. -/
theorem f4 (A : AH) (args : List V) (h : HasA A [.one (.i .i64), .one (.i .i64), .one (.i .i64)] args) : ACalls Tryz.prog W0 4 args A fun e _ => e = .ret (.b true) := by
  obtain ⟨a, _, rfl, ha, h1⟩ := h.invi
  obtain ⟨b, _, rfl, hb, h2⟩ := h1.invi
  obtain ⟨c, _, rfl, hc, h3⟩ := h2.invi
  rw [h3.inv0]
  refine (acalls_anywhere (v := .b true) rfl rfl fun W hW => ?_).mono fun e H h => h.1
  obtain ⟨l0, hl0, ok0⟩ := place a 3 (by omega) (by omega)
  obtain ⟨l1, hl1, ok1⟩ := place b 20 (by omega) (by omega)
  obtain ⟨r, hr, ok2⟩ := place c (l1 + 1) (by omega) (by omega)
  have e : ((l1 + 1 : Nat) : Int) = (l1 : Int) + 1 := by omega
  rw [e] at ok2
  obtain ⟨lo, cnt, h4, h5, h6⟩ := t_all a b c (.i .i64 ((l1 : Int) + 1)) l0 l1 r hl0 hl1 hr
  have ok3 := OkD.part ok2 h4 h5
  exact law4 a b c _ l0 l1 lo cnt ok0 ok1 ok3 (by omega) rfl (h6 ok0 ok1 ok3) W
end Go.Proofs.YtjaammiblfndaaaGreatDoor
