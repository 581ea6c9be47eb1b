/- A part of the proof: contracts of functions, over the abstract machine. -/
import Derived.Test.YtjaammiblfndaaaGreatDoorFzS
import Derived.KernelRfl
set_option linter.unusedVariables false
set_option linter.unusedSimpArgs false
set_option linter.all false
/- Runs of a law. -/
namespace Go.Proofs.YtjaammiblfndaaaGreatDoor
open Ram Go
set_option maxRecDepth 1000000
theorem s0_0 (a b : Int) (ok0 : OkG [.i .i64 a, .i .i64 (Int.ofNat 20)] 0) (ok1 : OkD [.i .i64 b, .i .i64 (Int.ofNat 16)] 0 2) : run11 a b 0 0 2 ok0 ok1 = true := by kernel_rfl
theorem s0_1 (a b : Int) (ok0 : OkG [.i .i64 a, .i .i64 (Int.ofNat 20)] 0) (ok1 : OkD [.i .i64 b, .i .i64 (Int.ofNat 16)] 2 2) : run11 a b 0 2 2 ok0 ok1 = true := by kernel_rfl
theorem s0_2 (a b : Int) (ok0 : OkG [.i .i64 a, .i .i64 (Int.ofNat 20)] 0) (ok1 : OkD [.i .i64 b, .i .i64 (Int.ofNat 16)] 4 2) : run11 a b 0 4 2 ok0 ok1 = true := by kernel_rfl
theorem s0_3 (a b : Int) (ok0 : OkG [.i .i64 a, .i .i64 (Int.ofNat 20)] 0) (ok1 : OkD [.i .i64 b, .i .i64 (Int.ofNat 16)] 6 2) : run11 a b 0 6 2 ok0 ok1 = true := by kernel_rfl
theorem s0_4 (a b : Int) (ok0 : OkG [.i .i64 a, .i .i64 (Int.ofNat 20)] 0) (ok1 : OkD [.i .i64 b, .i .i64 (Int.ofNat 16)] 8 2) : run11 a b 0 8 2 ok0 ok1 = true := by kernel_rfl
theorem s0_5 (a b : Int) (ok0 : OkG [.i .i64 a, .i .i64 (Int.ofNat 20)] 0) (ok1 : OkD [.i .i64 b, .i .i64 (Int.ofNat 16)] 10 2) : run11 a b 0 10 2 ok0 ok1 = true := by kernel_rfl
theorem s0_6 (a b : Int) (ok0 : OkG [.i .i64 a, .i .i64 (Int.ofNat 20)] 0) (ok1 : OkD [.i .i64 b, .i .i64 (Int.ofNat 16)] 12 2) : run11 a b 0 12 2 ok0 ok1 = true := by kernel_rfl
theorem s0_7 (a b : Int) (ok0 : OkG [.i .i64 a, .i .i64 (Int.ofNat 20)] 0) (ok1 : OkD [.i .i64 b, .i .i64 (Int.ofNat 16)] 14 2) : run11 a b 0 14 2 ok0 ok1 = true := by kernel_rfl
theorem s1_0 (a b : Int) (ok0 : OkG [.i .i64 a, .i .i64 (Int.ofNat 20)] 1) (ok1 : OkD [.i .i64 b, .i .i64 (Int.ofNat 16)] 0 2) : run11 a b 1 0 2 ok0 ok1 = true := by kernel_rfl
theorem s1_1 (a b : Int) (ok0 : OkG [.i .i64 a, .i .i64 (Int.ofNat 20)] 1) (ok1 : OkD [.i .i64 b, .i .i64 (Int.ofNat 16)] 2 2) : run11 a b 1 2 2 ok0 ok1 = true := by kernel_rfl
theorem s1_2 (a b : Int) (ok0 : OkG [.i .i64 a, .i .i64 (Int.ofNat 20)] 1) (ok1 : OkD [.i .i64 b, .i .i64 (Int.ofNat 16)] 4 2) : run11 a b 1 4 2 ok0 ok1 = true := by kernel_rfl
theorem s1_3 (a b : Int) (ok0 : OkG [.i .i64 a, .i .i64 (Int.ofNat 20)] 1) (ok1 : OkD [.i .i64 b, .i .i64 (Int.ofNat 16)] 6 2) : run11 a b 1 6 2 ok0 ok1 = true := by kernel_rfl
theorem s1_4 (a b : Int) (ok0 : OkG [.i .i64 a, .i .i64 (Int.ofNat 20)] 1) (ok1 : OkD [.i .i64 b, .i .i64 (Int.ofNat 16)] 8 2) : run11 a b 1 8 2 ok0 ok1 = true := by kernel_rfl
theorem s1_5 (a b : Int) (ok0 : OkG [.i .i64 a, .i .i64 (Int.ofNat 20)] 1) (ok1 : OkD [.i .i64 b, .i .i64 (Int.ofNat 16)] 10 2) : run11 a b 1 10 2 ok0 ok1 = true := by kernel_rfl
theorem s1_6 (a b : Int) (ok0 : OkG [.i .i64 a, .i .i64 (Int.ofNat 20)] 1) (ok1 : OkD [.i .i64 b, .i .i64 (Int.ofNat 16)] 12 2) : run11 a b 1 12 2 ok0 ok1 = true := by kernel_rfl
theorem s1_7 (a b : Int) (ok0 : OkG [.i .i64 a, .i .i64 (Int.ofNat 20)] 1) (ok1 : OkD [.i .i64 b, .i .i64 (Int.ofNat 16)] 14 2) : run11 a b 1 14 2 ok0 ok1 = true := by kernel_rfl
theorem s2_0 (a b : Int) (ok0 : OkG [.i .i64 a, .i .i64 (Int.ofNat 20)] 2) (ok1 : OkD [.i .i64 b, .i .i64 (Int.ofNat 16)] 0 2) : run11 a b 2 0 2 ok0 ok1 = true := by kernel_rfl
theorem s2_1 (a b : Int) (ok0 : OkG [.i .i64 a, .i .i64 (Int.ofNat 20)] 2) (ok1 : OkD [.i .i64 b, .i .i64 (Int.ofNat 16)] 2 2) : run11 a b 2 2 2 ok0 ok1 = true := by kernel_rfl
theorem s2_2 (a b : Int) (ok0 : OkG [.i .i64 a, .i .i64 (Int.ofNat 20)] 2) (ok1 : OkD [.i .i64 b, .i .i64 (Int.ofNat 16)] 4 2) : run11 a b 2 4 2 ok0 ok1 = true := by kernel_rfl
theorem s2_3 (a b : Int) (ok0 : OkG [.i .i64 a, .i .i64 (Int.ofNat 20)] 2) (ok1 : OkD [.i .i64 b, .i .i64 (Int.ofNat 16)] 6 2) : run11 a b 2 6 2 ok0 ok1 = true := by kernel_rfl
theorem s2_4 (a b : Int) (ok0 : OkG [.i .i64 a, .i .i64 (Int.ofNat 20)] 2) (ok1 : OkD [.i .i64 b, .i .i64 (Int.ofNat 16)] 8 2) : run11 a b 2 8 2 ok0 ok1 = true := by kernel_rfl
theorem s2_5 (a b : Int) (ok0 : OkG [.i .i64 a, .i .i64 (Int.ofNat 20)] 2) (ok1 : OkD [.i .i64 b, .i .i64 (Int.ofNat 16)] 10 2) : run11 a b 2 10 2 ok0 ok1 = true := by kernel_rfl
theorem s2_6 (a b : Int) (ok0 : OkG [.i .i64 a, .i .i64 (Int.ofNat 20)] 2) (ok1 : OkD [.i .i64 b, .i .i64 (Int.ofNat 16)] 12 2) : run11 a b 2 12 2 ok0 ok1 = true := by kernel_rfl
theorem s2_7 (a b : Int) (ok0 : OkG [.i .i64 a, .i .i64 (Int.ofNat 20)] 2) (ok1 : OkD [.i .i64 b, .i .i64 (Int.ofNat 16)] 14 2) : run11 a b 2 14 2 ok0 ok1 = true := by kernel_rfl
theorem s3_0 (a b : Int) (ok0 : OkG [.i .i64 a, .i .i64 (Int.ofNat 20)] 3) (ok1 : OkD [.i .i64 b, .i .i64 (Int.ofNat 16)] 0 2) : run11 a b 3 0 2 ok0 ok1 = true := by kernel_rfl
theorem s3_1 (a b : Int) (ok0 : OkG [.i .i64 a, .i .i64 (Int.ofNat 20)] 3) (ok1 : OkD [.i .i64 b, .i .i64 (Int.ofNat 16)] 2 2) : run11 a b 3 2 2 ok0 ok1 = true := by kernel_rfl
theorem s3_2 (a b : Int) (ok0 : OkG [.i .i64 a, .i .i64 (Int.ofNat 20)] 3) (ok1 : OkD [.i .i64 b, .i .i64 (Int.ofNat 16)] 4 2) : run11 a b 3 4 2 ok0 ok1 = true := by kernel_rfl
theorem s3_3 (a b : Int) (ok0 : OkG [.i .i64 a, .i .i64 (Int.ofNat 20)] 3) (ok1 : OkD [.i .i64 b, .i .i64 (Int.ofNat 16)] 6 2) : run11 a b 3 6 2 ok0 ok1 = true := by kernel_rfl
theorem s3_4 (a b : Int) (ok0 : OkG [.i .i64 a, .i .i64 (Int.ofNat 20)] 3) (ok1 : OkD [.i .i64 b, .i .i64 (Int.ofNat 16)] 8 2) : run11 a b 3 8 2 ok0 ok1 = true := by kernel_rfl
theorem s3_5 (a b : Int) (ok0 : OkG [.i .i64 a, .i .i64 (Int.ofNat 20)] 3) (ok1 : OkD [.i .i64 b, .i .i64 (Int.ofNat 16)] 10 2) : run11 a b 3 10 2 ok0 ok1 = true := by kernel_rfl
theorem s3_6 (a b : Int) (ok0 : OkG [.i .i64 a, .i .i64 (Int.ofNat 20)] 3) (ok1 : OkD [.i .i64 b, .i .i64 (Int.ofNat 16)] 12 2) : run11 a b 3 12 2 ok0 ok1 = true := by kernel_rfl
theorem s3_7 (a b : Int) (ok0 : OkG [.i .i64 a, .i .i64 (Int.ofNat 20)] 3) (ok1 : OkD [.i .i64 b, .i .i64 (Int.ofNat 16)] 14 2) : run11 a b 3 14 2 ok0 ok1 = true := by kernel_rfl
theorem s4_0 (a b : Int) (ok0 : OkG [.i .i64 a, .i .i64 (Int.ofNat 20)] 4) (ok1 : OkD [.i .i64 b, .i .i64 (Int.ofNat 16)] 0 2) : run11 a b 4 0 2 ok0 ok1 = true := by kernel_rfl
theorem s4_1 (a b : Int) (ok0 : OkG [.i .i64 a, .i .i64 (Int.ofNat 20)] 4) (ok1 : OkD [.i .i64 b, .i .i64 (Int.ofNat 16)] 2 2) : run11 a b 4 2 2 ok0 ok1 = true := by kernel_rfl
theorem s4_2 (a b : Int) (ok0 : OkG [.i .i64 a, .i .i64 (Int.ofNat 20)] 4) (ok1 : OkD [.i .i64 b, .i .i64 (Int.ofNat 16)] 4 2) : run11 a b 4 4 2 ok0 ok1 = true := by kernel_rfl
theorem s4_3 (a b : Int) (ok0 : OkG [.i .i64 a, .i .i64 (Int.ofNat 20)] 4) (ok1 : OkD [.i .i64 b, .i .i64 (Int.ofNat 16)] 6 2) : run11 a b 4 6 2 ok0 ok1 = true := by kernel_rfl
theorem s4_4 (a b : Int) (ok0 : OkG [.i .i64 a, .i .i64 (Int.ofNat 20)] 4) (ok1 : OkD [.i .i64 b, .i .i64 (Int.ofNat 16)] 8 2) : run11 a b 4 8 2 ok0 ok1 = true := by kernel_rfl
theorem s4_5 (a b : Int) (ok0 : OkG [.i .i64 a, .i .i64 (Int.ofNat 20)] 4) (ok1 : OkD [.i .i64 b, .i .i64 (Int.ofNat 16)] 10 2) : run11 a b 4 10 2 ok0 ok1 = true := by kernel_rfl
theorem s4_6 (a b : Int) (ok0 : OkG [.i .i64 a, .i .i64 (Int.ofNat 20)] 4) (ok1 : OkD [.i .i64 b, .i .i64 (Int.ofNat 16)] 12 2) : run11 a b 4 12 2 ok0 ok1 = true := by kernel_rfl
theorem s4_7 (a b : Int) (ok0 : OkG [.i .i64 a, .i .i64 (Int.ofNat 20)] 4) (ok1 : OkD [.i .i64 b, .i .i64 (Int.ofNat 16)] 14 2) : run11 a b 4 14 2 ok0 ok1 = true := by kernel_rfl
theorem s5_0 (a b : Int) (ok0 : OkG [.i .i64 a, .i .i64 (Int.ofNat 20)] 5) (ok1 : OkD [.i .i64 b, .i .i64 (Int.ofNat 16)] 0 2) : run11 a b 5 0 2 ok0 ok1 = true := by kernel_rfl
theorem s5_1 (a b : Int) (ok0 : OkG [.i .i64 a, .i .i64 (Int.ofNat 20)] 5) (ok1 : OkD [.i .i64 b, .i .i64 (Int.ofNat 16)] 2 2) : run11 a b 5 2 2 ok0 ok1 = true := by kernel_rfl
theorem s5_2 (a b : Int) (ok0 : OkG [.i .i64 a, .i .i64 (Int.ofNat 20)] 5) (ok1 : OkD [.i .i64 b, .i .i64 (Int.ofNat 16)] 4 2) : run11 a b 5 4 2 ok0 ok1 = true := by kernel_rfl
theorem s5_3 (a b : Int) (ok0 : OkG [.i .i64 a, .i .i64 (Int.ofNat 20)] 5) (ok1 : OkD [.i .i64 b, .i .i64 (Int.ofNat 16)] 6 2) : run11 a b 5 6 2 ok0 ok1 = true := by kernel_rfl
theorem s5_4 (a b : Int) (ok0 : OkG [.i .i64 a, .i .i64 (Int.ofNat 20)] 5) (ok1 : OkD [.i .i64 b, .i .i64 (Int.ofNat 16)] 8 2) : run11 a b 5 8 2 ok0 ok1 = true := by kernel_rfl
theorem s5_5 (a b : Int) (ok0 : OkG [.i .i64 a, .i .i64 (Int.ofNat 20)] 5) (ok1 : OkD [.i .i64 b, .i .i64 (Int.ofNat 16)] 10 2) : run11 a b 5 10 2 ok0 ok1 = true := by kernel_rfl
theorem s5_6 (a b : Int) (ok0 : OkG [.i .i64 a, .i .i64 (Int.ofNat 20)] 5) (ok1 : OkD [.i .i64 b, .i .i64 (Int.ofNat 16)] 12 2) : run11 a b 5 12 2 ok0 ok1 = true := by kernel_rfl
theorem s5_7 (a b : Int) (ok0 : OkG [.i .i64 a, .i .i64 (Int.ofNat 20)] 5) (ok1 : OkD [.i .i64 b, .i .i64 (Int.ofNat 16)] 14 2) : run11 a b 5 14 2 ok0 ok1 = true := by kernel_rfl
theorem s6_0 (a b : Int) (ok0 : OkG [.i .i64 a, .i .i64 (Int.ofNat 20)] 6) (ok1 : OkD [.i .i64 b, .i .i64 (Int.ofNat 16)] 0 2) : run11 a b 6 0 2 ok0 ok1 = true := by kernel_rfl
theorem s6_1 (a b : Int) (ok0 : OkG [.i .i64 a, .i .i64 (Int.ofNat 20)] 6) (ok1 : OkD [.i .i64 b, .i .i64 (Int.ofNat 16)] 2 2) : run11 a b 6 2 2 ok0 ok1 = true := by kernel_rfl
theorem s6_2 (a b : Int) (ok0 : OkG [.i .i64 a, .i .i64 (Int.ofNat 20)] 6) (ok1 : OkD [.i .i64 b, .i .i64 (Int.ofNat 16)] 4 2) : run11 a b 6 4 2 ok0 ok1 = true := by kernel_rfl
theorem s6_3 (a b : Int) (ok0 : OkG [.i .i64 a, .i .i64 (Int.ofNat 20)] 6) (ok1 : OkD [.i .i64 b, .i .i64 (Int.ofNat 16)] 6 2) : run11 a b 6 6 2 ok0 ok1 = true := by kernel_rfl
theorem s6_4 (a b : Int) (ok0 : OkG [.i .i64 a, .i .i64 (Int.ofNat 20)] 6) (ok1 : OkD [.i .i64 b, .i .i64 (Int.ofNat 16)] 8 2) : run11 a b 6 8 2 ok0 ok1 = true := by kernel_rfl
theorem s6_5 (a b : Int) (ok0 : OkG [.i .i64 a, .i .i64 (Int.ofNat 20)] 6) (ok1 : OkD [.i .i64 b, .i .i64 (Int.ofNat 16)] 10 2) : run11 a b 6 10 2 ok0 ok1 = true := by kernel_rfl
theorem s6_6 (a b : Int) (ok0 : OkG [.i .i64 a, .i .i64 (Int.ofNat 20)] 6) (ok1 : OkD [.i .i64 b, .i .i64 (Int.ofNat 16)] 12 2) : run11 a b 6 12 2 ok0 ok1 = true := by kernel_rfl
theorem s6_7 (a b : Int) (ok0 : OkG [.i .i64 a, .i .i64 (Int.ofNat 20)] 6) (ok1 : OkD [.i .i64 b, .i .i64 (Int.ofNat 16)] 14 2) : run11 a b 6 14 2 ok0 ok1 = true := by kernel_rfl
theorem s7_0 (a b : Int) (ok0 : OkG [.i .i64 a, .i .i64 (Int.ofNat 20)] 7) (ok1 : OkD [.i .i64 b, .i .i64 (Int.ofNat 16)] 0 2) : run11 a b 7 0 2 ok0 ok1 = true := by kernel_rfl
theorem s7_1 (a b : Int) (ok0 : OkG [.i .i64 a, .i .i64 (Int.ofNat 20)] 7) (ok1 : OkD [.i .i64 b, .i .i64 (Int.ofNat 16)] 2 2) : run11 a b 7 2 2 ok0 ok1 = true := by kernel_rfl
theorem s7_2 (a b : Int) (ok0 : OkG [.i .i64 a, .i .i64 (Int.ofNat 20)] 7) (ok1 : OkD [.i .i64 b, .i .i64 (Int.ofNat 16)] 4 2) : run11 a b 7 4 2 ok0 ok1 = true := by kernel_rfl
theorem s7_3 (a b : Int) (ok0 : OkG [.i .i64 a, .i .i64 (Int.ofNat 20)] 7) (ok1 : OkD [.i .i64 b, .i .i64 (Int.ofNat 16)] 6 2) : run11 a b 7 6 2 ok0 ok1 = true := by kernel_rfl
theorem s7_4 (a b : Int) (ok0 : OkG [.i .i64 a, .i .i64 (Int.ofNat 20)] 7) (ok1 : OkD [.i .i64 b, .i .i64 (Int.ofNat 16)] 8 2) : run11 a b 7 8 2 ok0 ok1 = true := by kernel_rfl
theorem s7_5 (a b : Int) (ok0 : OkG [.i .i64 a, .i .i64 (Int.ofNat 20)] 7) (ok1 : OkD [.i .i64 b, .i .i64 (Int.ofNat 16)] 10 2) : run11 a b 7 10 2 ok0 ok1 = true := by kernel_rfl
theorem s7_6 (a b : Int) (ok0 : OkG [.i .i64 a, .i .i64 (Int.ofNat 20)] 7) (ok1 : OkD [.i .i64 b, .i .i64 (Int.ofNat 16)] 12 2) : run11 a b 7 12 2 ok0 ok1 = true := by kernel_rfl
theorem s7_7 (a b : Int) (ok0 : OkG [.i .i64 a, .i .i64 (Int.ofNat 20)] 7) (ok1 : OkD [.i .i64 b, .i .i64 (Int.ofNat 16)] 14 2) : run11 a b 7 14 2 ok0 ok1 = true := by kernel_rfl
theorem s8_0 (a b : Int) (ok0 : OkG [.i .i64 a, .i .i64 (Int.ofNat 20)] 8) (ok1 : OkD [.i .i64 b, .i .i64 (Int.ofNat 16)] 0 2) : run11 a b 8 0 2 ok0 ok1 = true := by kernel_rfl
theorem s8_1 (a b : Int) (ok0 : OkG [.i .i64 a, .i .i64 (Int.ofNat 20)] 8) (ok1 : OkD [.i .i64 b, .i .i64 (Int.ofNat 16)] 2 2) : run11 a b 8 2 2 ok0 ok1 = true := by kernel_rfl
theorem s8_2 (a b : Int) (ok0 : OkG [.i .i64 a, .i .i64 (Int.ofNat 20)] 8) (ok1 : OkD [.i .i64 b, .i .i64 (Int.ofNat 16)] 4 2) : run11 a b 8 4 2 ok0 ok1 = true := by kernel_rfl
theorem s8_3 (a b : Int) (ok0 : OkG [.i .i64 a, .i .i64 (Int.ofNat 20)] 8) (ok1 : OkD [.i .i64 b, .i .i64 (Int.ofNat 16)] 6 2) : run11 a b 8 6 2 ok0 ok1 = true := by kernel_rfl
theorem s8_4 (a b : Int) (ok0 : OkG [.i .i64 a, .i .i64 (Int.ofNat 20)] 8) (ok1 : OkD [.i .i64 b, .i .i64 (Int.ofNat 16)] 8 2) : run11 a b 8 8 2 ok0 ok1 = true := by kernel_rfl
theorem s8_5 (a b : Int) (ok0 : OkG [.i .i64 a, .i .i64 (Int.ofNat 20)] 8) (ok1 : OkD [.i .i64 b, .i .i64 (Int.ofNat 16)] 10 2) : run11 a b 8 10 2 ok0 ok1 = true := by kernel_rfl
theorem s8_6 (a b : Int) (ok0 : OkG [.i .i64 a, .i .i64 (Int.ofNat 20)] 8) (ok1 : OkD [.i .i64 b, .i .i64 (Int.ofNat 16)] 12 2) : run11 a b 8 12 2 ok0 ok1 = true := by kernel_rfl
theorem s8_7 (a b : Int) (ok0 : OkG [.i .i64 a, .i .i64 (Int.ofNat 20)] 8) (ok1 : OkD [.i .i64 b, .i .i64 (Int.ofNat 16)] 14 2) : run11 a b 8 14 2 ok0 ok1 = true := by kernel_rfl
end Go.Proofs.YtjaammiblfndaaaGreatDoor
