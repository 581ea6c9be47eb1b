/- A part of the proof: contracts of functions, over the abstract machine. -/
import Derived.Test.YtmdmabedfleacaaBk5
set_option linter.unusedVariables false
set_option linter.unusedSimpArgs false
set_option linter.all false
namespace Go.Proofs.Ytmdmabedfleacaa
open Ram Go

variable {W0 : World} {H : AH}

def bT (i : Nat) : Tup := ⟨6, i, 1000, 0, 80⟩
def bL (lo t : Nat) : List Blk := (List.range' lo t).map fun j => ⟨bT j, j⟩

theorem same_bT (i j : Nat) : same (bT i) (bT j) = decide (i = j) := by
  have h1 : (bT i = bT j) = (i = j) := by simp [bT]; omega
  have h2 : ¬ bT i = (bT j).turn := by simp [bT, Tup.turn]
  simp [same, h1, h2]
theorem bL_length (lo t : Nat) : (bL lo t).length = t := by simp [bL]
theorem bL_any (lo t j : Nat) : (bL lo t).any (fun x => same (bT j) x.t) = decide (lo ≤ j ∧ j < lo + t) := by
  simp only [bL, List.any_map, Function.comp_def, same_bT]
  rw [Bool.eq_iff_iff, List.any_eq_true, decide_eq_true_eq]
  constructor
  · rintro ⟨x, hx, h⟩
    simp only [decide_eq_true_eq] at h; subst h
    rw [List.mem_range'_1] at hx; exact hx
  · intro h; exact ⟨j, by rw [List.mem_range'_1]; exact h, by simp⟩

theorem addB_bL {lo t : Nat} (ht : t ≤ 64) : addB (bL lo t) ((lo + t : Nat) : Int) (bT (lo + t)) = if t = 64 then bL (lo + 1) 64 else bL lo (t + 1) := by
  have hf : (bL lo t).findIdx? (fun x => same (bT (lo + t)) x.t) = none := by
    rw [List.findIdx?_eq_none_iff]
    intro x hx
    simp only [bL, List.mem_map, List.mem_range'_1] at hx
    obtain ⟨j, hj, rfl⟩ := hx
    rw [same_bT]; simp; omega
  have ha : bL lo t ++ [Blk.mk (bT (lo + t)) ((lo + t : Nat) : Int)] = bL lo (t + 1) := by
    simp only [bL, List.range'_1_concat, List.map_append, List.map_cons, List.map_nil]
  unfold addB
  rw [hf]
  simp only
  rw [ha, cut64, bL_length]
  by_cases h : t = 64
  · subst h
    simp only [show 64 < 64 + 1 by omega, if_true, show 64 + 1 - 64 = 1 by omega]
    simp only [bL, List.range'_succ, List.map_cons, List.drop_succ_cons, List.drop_zero]
  · rw [if_neg (by omega), if_neg h]

theorem filter_bL {lo n i w : Nat} (hi : lo + n = i + 1) (hn : n ≤ w) (hw : 0 < w) (hi' : i < 1000) : (bL lo n).filter (fun x => !overB ((i : Int) + 1) w x) = if n = w then bL (lo + 1) (n - 1) else bL lo n := by
  have hov : ∀ j, j ≤ i → overB ((i : Int) + 1) w ⟨bT j, j⟩ = decide (w + j ≤ i + 1) := by
    intro j hj
    unfold overB
    rw [Bool.eq_iff_iff, decide_eq_true_eq, decide_eq_true_eq]
    simp only
    rw [wrap_i64 (by omega) (by omega)]; omega
  by_cases h : n = w
  · subst h
    rw [if_pos rfl]
    obtain ⟨m, rfl⟩ : ∃ m, n = m + 1 := ⟨n - 1, by omega⟩
    simp only [bL, List.range'_succ, List.map_cons, Nat.add_sub_cancel]
    rw [List.filter_cons_of_neg (by rw [hov _ (by omega)]; simp; omega), List.filter_eq_self]
    intro x hx
    simp only [List.mem_map, List.mem_range'_1] at hx
    obtain ⟨j, hj, rfl⟩ := hx
    rw [hov _ (by omega)]; simp; omega
  · rw [if_neg h, List.filter_eq_self]
    intro x hx
    simp only [bL, List.mem_map, List.mem_range'_1] at hx
    obtain ⟨j, hj, rfl⟩ := hx
    rw [hov _ (by omega)]; simp; omega

/-- The law's tuples. -/
theorem f16 {i : Nat} (hi : i < 1000) : ACalls Try.prog W0 16 [.i .i64 i] H fun e H' => e = .ret (.agg (bT i).c) ∧ Grows H H' := by
  refine acalls_by k16 (by simp) ?_
  have hw : IntKind.u32.wrap (i : Int) = i := wrap_u32 (by omega) (by omega)
  simp -dsimp [hw, bT]
  exact Keeps.alloc' Keeps.refl
end Go.Proofs.Ytmdmabedfleacaa
