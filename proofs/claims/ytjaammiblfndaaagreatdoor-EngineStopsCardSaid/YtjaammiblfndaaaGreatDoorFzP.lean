/- A part of the proof: contracts of functions, over the abstract machine. -/
import Derived.Test.YtjaammiblfndaaaGreatDoorFz1
import Derived.Test.YtjaammiblfndaaaGreatDoorRaD
import Derived.Test.YtjaammiblfndaaaGreatDoorProg
import Derived.KernelRfl
set_option linter.unusedVariables false
set_option linter.unusedSimpArgs false
set_option linter.all false
/- A place among so many; the examples. -/
namespace Go.Proofs.YtjaammiblfndaaaGreatDoor
open Ram Go
noncomputable section
set_option maxRecDepth 100000
set_option maxHeartbeats 4000000

variable {W0 : World} {H : AH}
theorem q13' : compFn Tryz.prog 13 = some (⟨15, .seq (.reg [⟨some 4, .pure (.mv (.c (.i .i64 0))), none⟩]) (.seq (.reg [⟨some 6, .pure (.mv (.t 0)), none⟩, ⟨some 7, .pure (.mv (.t 1)), none⟩, ⟨some 8, .pure (.bin .rem (.t 6) (.t 7)), none⟩, ⟨some 5, .pure (.mv (.t 8)), none⟩]) (.seq (.seq (.reg [⟨some 9, .pure (.mv (.t 5)), none⟩, ⟨some 10, .pure (.bin .lss (.t 9) (.c (.i .i64 0))), none⟩]) (.cond (.t 10) (.reg [⟨some 11, .pure (.mv (.t 5)), none⟩, ⟨some 12, .pure (.mv (.t 1)), none⟩, ⟨some 13, .pure (.bin .add (.t 11) (.t 12)), none⟩, ⟨some 5, .pure (.mv (.t 13)), none⟩]) .skip)) (.seq (.reg [⟨some 14, .pure (.mv (.t 5)), none⟩, ⟨some 4, .pure (.mv (.t 14)), none⟩]) .ret))), [.t 4]⟩ : AFn) := by kernel_rfl
/-- rampartlaw00.Place. -/
theorem f13 {n m : Int} (hm : 0 < m) (hm' : m ≤ 4611686018427387904) : ACalls Tryz.prog W0 13 [.i .i64 n, .i .i64 m] H fun e H' => e = .ret (.i .i64 (n % m)) ∧ H = H' := by
  refine acalls_by q13' (by simp) ?_
  have h0 : ¬ m = 0 := by omega
  have hlt := Int.tmod_lt_of_pos n hm
  by_cases h1 : n.tmod m < 0
  · have : n % m = n.tmod m + m := by
      rw [Int.tmod_eq_emod] at h1 ⊢
      split at h1
      · have := Int.emod_nonneg n h0; omega
      · next h => rw [if_neg h]; omega
    simp -dsimp [h0, h1]
    have hb := Int.emod_nonneg n h0
    have hb' := Int.emod_lt_of_pos n hm
    rw [wrap_i64 (by omega) (by omega), this]
  · have : n % m = n.tmod m := by
      rw [Int.tmod_eq_emod] at h1 ⊢
      split
      · omega
      · next h => rw [if_neg h] at h1; have := Int.emod_lt_of_pos n hm; omega
    simp -dsimp [h0, h1, this]
/-- A call of Place tells one of these. -/
def OkD (vs : List V) (lo cnt : Nat) : Prop := ∃ r : Nat, lo ≤ r ∧ r < lo + cnt ∧ ∀ W0 H, ACalls Tryz.prog W0 13 vs H fun e H' => e = .ret (.i .i64 r) ∧ H = H'
theorem place (n : Int) (m : Nat) (h0 : 0 < m) (h1 : m ≤ 4611686018427387904) : ∃ r : Nat, r < m ∧ ∀ W0 H, ACalls Tryz.prog W0 13 [.i .i64 n, .i .i64 m] H fun e H' => e = .ret (.i .i64 r) ∧ H = H' := by
  have hb := Int.emod_nonneg n (show (m : Int) ≠ 0 by omega)
  have hb' := Int.emod_lt_of_pos n (show (0 : Int) < m by omega)
  refine ⟨(n % (m : Int)).toNat, by omega, fun W0 H => (f13 (by omega) (by omega)).mono fun e H' hh => ?_⟩
  obtain ⟨rfl, rfl⟩ := hh
  rw [Int.toNat_of_nonneg hb]
  exact ⟨rfl, rfl⟩
/-- It tells this one. -/
def OkG (vs : List V) (r : Nat) : Prop := ∀ W0 H, ACalls Tryz.prog W0 13 vs H fun e H' => e = .ret (.i .i64 (Int.ofNat r)) ∧ H = H'
theorem opAdd_nat {r : Nat} (hr : r < 1000) (k : V → Bool) : opAdd (.i .i64 (Int.ofNat r)) (.i .i64 (Int.ofNat 1)) k = k (.i .i64 ((r : Int) + 1)) := by
  show eqK .i64 .i64 (addZ (Int.ofNat r) (Int.ofNat 1) fun r => wrapZ .i64 r fun r => k (.i .i64 r)) = _
  rw [addZ_eq, wrapZ_eq]
  show k (.i .i64 (IntKind.i64.wrap ((r : Int) + 1))) = _
  rw [wrap_i64 (by omega) (by omega)]
theorem OkD.part {vs : List V} {r lo cnt : Nat} (h : ∀ W0 H, ACalls Tryz.prog W0 13 vs H fun e H' => e = .ret (.i .i64 r) ∧ H = H') (h1 : lo ≤ r) (h2 : r < lo + cnt) : OkD vs lo cnt := ⟨r, h1, h2, h⟩
theorem aw12 : C12.run [] AH.none (fun v _ => isT v) = true := by kernel_rfl
/-- rampartlaw25.awake. -/
theorem f12 : ACalls Tryz.prog W0 12 [] H fun e H' => e = .ret (.b true) ∧ H = H' :=
  acalls_anywhere rfl rfl fun W _ => (C12.ok W [] AH.none _ aw12).mono fun e H' hh => by
    obtain ⟨v, rfl, h⟩ := hh
    exact congrArg AEnd.ret (isT_true h)
def B12 : T 12 := runSame (v := .b true) fun W0 H => f12
theorem aw34 : C34.run [] AH.none (fun v _ => isT v) = true := by kernel_rfl
/-- rampartlaw26.awake. -/
theorem f34 : ACalls Tryz.prog W0 34 [] H fun e H' => e = .ret (.b true) ∧ H = H' :=
  acalls_anywhere rfl rfl fun W _ => (C34.ok W [] AH.none _ aw34).mono fun e H' hh => by
    obtain ⟨v, rfl, h⟩ := hh
    exact congrArg AEnd.ret (isT_true h)
def B34 : T 34 := runSame (v := .b true) fun W0 H => f34
theorem aw38 : C38.run [] AH.none (fun v _ => isT v) = true := by kernel_rfl
/-- ramparttop.awake. -/
theorem f38 : ACalls Tryz.prog W0 38 [] H fun e H' => e = .ret (.b true) ∧ H = H' :=
  acalls_anywhere rfl rfl fun W _ => (C38.ok W [] AH.none _ aw38).mono fun e H' hh => by
    obtain ⟨v, rfl, h⟩ := hh
    exact congrArg AEnd.ret (isT_true h)
def B38 : T 38 := runSame (v := .b true) fun W0 H => f38
end
end Go.Proofs.YtjaammiblfndaaaGreatDoor
