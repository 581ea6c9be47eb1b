/- A part of the proof: contracts of functions, over the abstract machine. -/
import Derived.Test.YtmdmabedfleacaaBk7
set_option linter.unusedVariables false
set_option linter.unusedSimpArgs false
set_option linter.all false
namespace Go.Proofs.Ytmdmabedfleacaa
open Ram Go

variable {W0 : World} {H : AH}

def manyAt (w i : Nat) : Nat := min i (min 64 (w - 1))

theorem many_step {w i : Nat} (hw : 0 < w) (hi : i < 1000) : (addB (bL (i - manyAt w i) (manyAt w i)) (i : Int) (bT i)).filter (fun x => !overB ((i : Int) + 1) w x) = bL (i + 1 - manyAt w (i + 1)) (manyAt w (i + 1)) ∧
    (addB (bL (i - manyAt w i) (manyAt w i)) (i : Int) (bT i)).length ≤ manyAt w (i + 1) + 1 ∧ manyAt w (i + 1) ≤ (addB (bL (i - manyAt w i) (manyAt w i)) (i : Int) (bT i)).length := by
  obtain ⟨t, ht⟩ : ∃ t, t = manyAt w i := ⟨_, rfl⟩
  obtain ⟨t', ht'⟩ : ∃ t, t = manyAt w (i + 1) := ⟨_, rfl⟩
  rw [← ht, ← ht']
  unfold manyAt at ht ht'
  have h := addB_bL (lo := i - t) (t := t) (by omega)
  rw [show i - t + t = i by omega] at h
  rw [h]
  by_cases h64 : t = 64
  · rw [if_pos h64, filter_bL (by omega) (by omega) hw hi]
    refine ⟨?_, by rw [bL_length]; omega, by rw [bL_length]; omega⟩
    split <;> congr 1 <;> omega
  · rw [if_neg h64, filter_bL (by omega) (by omega) hw hi]
    refine ⟨?_, by rw [bL_length]; omega, by rw [bL_length]; omega⟩
    split <;> congr 1 <;> omega

/-- The law BlocksMany. -/
theorem f4 (a0 a1 : Int) : ACalls Try.prog W0 4 [.i .i64 a0, .i .i64 a1] H fun e H' => e = .ret (.b true) := by
  refine acalls_by k4 (by simp) ?_
  obtain ⟨k, hk⟩ : ∃ k : Nat, a0 % 100 = k := ⟨(a0 % 100).toNat, by have := Int.emod_nonneg a0 (show (100 : Int) ≠ 0 by omega); omega⟩
  obtain ⟨u, hu⟩ : ∃ k : Nat, a1 % 90 = k := ⟨(a1 % 90).toNat, by have := Int.emod_nonneg a1 (show (90 : Int) ≠ 0 by omega); omega⟩
  have h1 := Int.emod_lt_of_pos a0 (show (0 : Int) < 100 by omega)
  have h2 := Int.emod_lt_of_pos a1 (show (0 : Int) < 90 by omega)
  obtain ⟨w, hw⟩ : ∃ w, w = u + 1 := ⟨_, rfl⟩
  simp -dsimp
  refine (f10 (n := a0) (m := 100) (by omega) (by omega)).next ?_
  rintro _ rfl
  simp -dsimp
  refine (f10 (n := a1) (m := 90) (by omega) (by omega)).next ?_
  rintro _ rfl
  have hw1 : IntKind.i64.wrap (1 + a1 % 90) = w := by rw [wrap_i64 (by omega) (by omega)]; omega
  simp -dsimp [hk, hw1]
  refine (f15 w).some ?_
  rintro b H1 ⟨hb1, g1, hb⟩
  have hm : mostOf w = w := by unfold mostOf; rw [if_neg (show ¬ 100000 < (w : Int) by omega)]; split <;> omega
  rw [hm] at hb1
  simp -dsimp
  refine awp_round (fun m env H => ∃ (i : Nat) (F : Nat → Prop), i ≤ k ∧ m = k - i ∧ env.get 5 = some (.i .i64 k) ∧ env.get 6 = some (.i .i64 w) ∧ env.get 7 = some (.p (some (b, 0))) ∧ env.get 8 = some (.f (.func 16) [] []) ∧ env.get 9 = some (.i .i64 i) ∧
    BRep H b i w (bL (i - manyAt w i) (manyAt w i)) F) k ⟨0, _, by omega, by omega, by simp, by simp, by simp, by simp, by simp, hb1⟩ ?_
  rintro m env H2 ⟨i, F, hi, rfl, e5, e6, e7, e8, e9, hb2⟩
  by_cases hlt : i < k
  · simp -dsimp [e5, e6, e7, e8, e9, hlt]
    refine (f16 (by omega)).next ?_
    rintro H3 g3
    simp -dsimp [e7]
    refine (f17 (bT i) (hb2.grow g3)).next ?_
    rintro H4 ⟨hb4, _⟩
    simp -dsimp [e7]
    refine (f18 1 hb4).next ?_
    rintro H5 ⟨hb5, _⟩
    obtain ⟨s1, s2, s3⟩ := many_step (w := w) (i := i) (by omega) (by omega)
    have hnow : IntKind.i64.wrap ((i : Int) + stepOf 1) = (i : Int) + 1 := by
      rw [show stepOf 1 = 1 by decide, wrap_i64 (by omega) (by omega)]
    rw [hnow, s1] at hb5 ⊢
    rw [bL_length]
    have hm2 : manyAt w (i + 1) ≤ 64 ∧ manyAt w (i + 1) ≤ i + 1 := by unfold manyAt; omega
    have hwi : IntKind.i64.wrap ((i : Int) + 1) = (i : Int) + 1 := wrap_i64 (by omega) (by omega)
    have hww : IntKind.i64.wrap ((w : Int) - 1) = (w : Int) - 1 := wrap_i64 (by omega) (by omega)
    simp -dsimp [e5, e6, e7, e8, e9, hwi, hww]
    refine (f19 hb5).some ?_
    rintro v H6 ⟨hs6, g6⟩
    obtain ⟨e', a', cap', rfl⟩ := hs6.len
    rw [List.length_map, bL_length]
    have hthere : (if (if (w : Int) - 1 < 64 then (w : Int) - 1 else 64) < (i : Int) + 1 then (if (w : Int) - 1 < 64 then (w : Int) - 1 else 64) else (i : Int) + 1) = (manyAt w (i + 1) : Nat) := by
      unfold manyAt; split <;> split <;> omega
    have hg1 : ¬ ((addB (bL (i - manyAt w i) (manyAt w i)) (i : Int) (bT i)).length : Int) - (manyAt w (i + 1) : Nat) < 0 := by omega
    have hg2 : ¬ 1 < ((addB (bL (i - manyAt w i) (manyAt w i)) (i : Int) (bT i)).length : Int) - (manyAt w (i + 1) : Nat) := by omega
    simp -dsimp [e5, e6, e7, e8, e9, hthere, hg1, hg2]
    refine awp_round (fun m env H => ∃ (j : Nat) (F : Nat → Prop), j ≤ i + 1 ∧ m = i + 1 - j ∧ env.get 5 = some (.i .i64 k) ∧ env.get 6 = some (.i .i64 w) ∧ env.get 7 = some (.p (some (b, 0))) ∧ env.get 8 = some (.f (.func 16) [] []) ∧ env.get 9 = some (.i .i64 i) ∧
      env.get 11 = some (.i .i64 (manyAt w (i + 1) : Nat)) ∧ env.get 12 = some (.i .i64 j) ∧ BRep H b (i + 1 : Nat) w (bL (i + 1 - manyAt w (i + 1)) (manyAt w (i + 1))) F) (i + 1)
      ⟨0, _, by omega, by omega, by simp [e5], by simp [e6], by simp [e7], by simp [e8], by simp [e9], by simp, by simp, hb5.grow g6⟩ ?_
    clear hb5 hs6 g6 e5 e6 e7 e8 e9 hb2
    rintro m env H7 ⟨j, F, hj, rfl, e5, e6, e7, e8, e9, e11, e12, hb7⟩
    by_cases hjl : (j : Int) ≤ i
    · simp -dsimp [e5, e6, e7, e8, e9, e11, e12, hjl]
      refine (f16 (by omega)).next ?_
      rintro H8 g8
      simp -dsimp [e7]
      refine (f20 (bT j) (hb7.grow g8)).next ?_
      rintro H9 g9
      rw [bL_any]
      have hwt : IntKind.i64.wrap ((i : Int) - (manyAt w (i + 1) : Nat)) = (i : Int) - (manyAt w (i + 1) : Nat) := wrap_i64 (by omega) (by omega)
      have hwj : IntKind.i64.wrap ((j : Int) + 1) = (j : Int) + 1 := wrap_i64 (by omega) (by omega)
      have hd : decide (i + 1 - manyAt w (i + 1) ≤ j ∧ j < i + 1 - manyAt w (i + 1) + manyAt w (i + 1)) = decide ((i : Int) - (manyAt w (i + 1) : Nat) < j) := by
        rw [Bool.eq_iff_iff, decide_eq_true_eq, decide_eq_true_eq]; omega
      rw [hd]
      simp -dsimp [e5, e6, e7, e8, e9, e11, e12, hwt, hwj]
      exact hold_mk ⟨i + 1 - (j + 1), by omega, j + 1, F, by omega, rfl, by simp [e5], by simp [e6], by simp [e7], by simp [e8], by simp [e9], by simp [e11], by simp, (hb7.grow g8).grow g9⟩
    · simp -dsimp [e5, e6, e7, e8, e9, e11, e12, hjl, hwi]
      exact hold_mk ⟨k - (i + 1), by omega, i + 1, F, by omega, rfl, by simp [e5], by simp [e6], by simp [e7], by simp [e8], by simp, hb7⟩
  · simp -dsimp [e5, e6, e7, e8, e9, hlt]
    refine f21.mono ?_
    rintro _ H13 rfl
    simp -dsimp
end Go.Proofs.Ytmdmabedfleacaa
