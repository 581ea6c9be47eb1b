/- A part of the proof: contracts of functions, over the abstract machine. -/
import Derived.Test.YtmdmabedfleacaaDoorDo1
import Derived.Test.YtmdmabedfleacaaDoorRaD
set_option linter.unusedVariables false
set_option linter.unusedSimpArgs false
set_option linter.all false
namespace Go.Proofs.YtmdmabedfleacaaDoor
open Ram Go

variable {W0 : World} {H : AH}

/-- A tuple. -/
structure Tup where
  p : Int
  s : Int
  d : Int
  sp : Int
  dp : Int
  deriving DecidableEq
@[simp] def Tup.c (t : Tup) : List V := [.i .i64 t.p, .i .u32 t.s, .i .u32 t.d, .i .i64 t.sp, .i .i64 t.dp]
def Tup.turn (t : Tup) : Tup := ⟨t.p, t.d, t.s, t.dp, t.sp⟩

def sameDir (a b : Tup) : Int := if a = b then 0 else if a = b.turn then 1 else 0
def same (a b : Tup) : Bool := decide (a = b) || decide (a = b.turn)

theorem Tup.eq_iff {a b : Tup} : a = b ↔ a.p = b.p ∧ a.s = b.s ∧ a.d = b.d ∧ a.sp = b.sp ∧ a.dp = b.dp := by
  cases a; cases b; simp


theorem sameAt_tup (a b : Tup) : sameAt [(0, .i), (1, .i), (2, .i), (3, .i), (4, .i)] a.c b.c = some (decide (a = b)) := by
  simp -dsimp [sameAt, sameCell]
  by_cases h1 : a.p = b.p <;> by_cases h2 : a.s = b.s <;> by_cases h3 : a.d = b.d <;> by_cases h4 : a.sp = b.sp <;> by_cases h5 : a.dp = b.dp <;> simp -dsimp [h1, h2, h3, h4, h5, Tup.eq_iff]

/-- tuple.Turn. -/
theorem f13 (t : Tup) : ACalls Tryd.prog W0 13 [.agg t.c] H fun e H' => e = .ret (.agg t.turn.c) ∧ Grows H H' := by
  refine acalls_by k13 (by simp) ?_
  simp -dsimp [Tup.turn, splice]
  exact Keeps.alloc' (Keeps.alloc' Keeps.refl)

/-- tuple.Same. -/
theorem f16 (a b : Tup) : ACalls Tryd.prog W0 16 [.agg a.c, .agg b.c] H fun e H' => e = .ret (.tup [.i .i64 (sameDir a b), .b (same a b)]) ∧ Grows H H' := by
  refine acalls_by k16 (by simp) ?_
  have e1 := sameAt_tup a b
  have e2 := sameAt_tup a b.turn
  simp only [Tup.c] at e1 e2
  simp -dsimp [e1]
  by_cases h1 : a = b
  · simp -dsimp [h1, sameDir, same]
    exact Keeps.alloc' (Keeps.alloc' Keeps.refl)
  · simp -dsimp [h1]
    refine (f13 b).mono ?_
    rintro _ H2 ⟨rfl, hg⟩
    have g1 : H2.get H.next = some (.cells .rw a.c) := hg.at (by simp; omega) (by simp)
    simp only [Tup.c] at g1
    have g2 : Grows H H2 := Keeps.trans (Keeps.alloc' (Keeps.alloc' Keeps.refl)) hg
    simp -dsimp [ldCells_of g1, e2]
    by_cases h2 : a = b.turn
    · simp -dsimp [h2, sameDir, same, h1]
      rw [← h2]; simp -dsimp [h1, g2]
    · simp -dsimp [h2, sameDir, same, h1, g2]


/-- rampartlaw00.Place. -/
theorem f12 {n m : Int} (hm : 0 < m) (hm' : m ≤ 4611686018427387904) : ACalls Tryd.prog W0 12 [.i .i64 n, .i .i64 m] H fun e H' => e = .ret (.i .i64 (n % m)) ∧ H = H' := by
  refine acalls_by k12 (by simp) ?_
  have h0 : ¬ m = 0 := by omega
  have hlt := Int.tmod_lt_of_pos n hm
  by_cases h1 : n.tmod m < 0
  · have : n % m = n.tmod m + m := by
      rw [Int.tmod_eq_emod] at h1 ⊢
      split at h1
      · have := Int.emod_nonneg n h0; omega
      · next h => rw [if_neg h]; omega
    simp -dsimp [h0, h1]
    have hb := Int.emod_nonneg n h0
    have hb' := Int.emod_lt_of_pos n hm
    rw [wrap_i64 (by omega) (by omega), this]
  · have : n % m = n.tmod m := by
      rw [Int.tmod_eq_emod] at h1 ⊢
      split
      · omega
      · next h => rw [if_neg h] at h1; have := Int.emod_lt_of_pos n hm; omega
    simp -dsimp [h0, h1, this]


/-- rampartref21.Turn. -/
theorem f19 (t : Tup) : ACalls Tryd.prog W0 19 [.agg t.c] H fun e H' => e = .ret (.agg t.turn.c) ∧ Grows H H' := by
  refine acalls_by k19 (by simp) ?_
  simp -dsimp [Tup.turn]
  exact Keeps.alloc' (Keeps.alloc' Keeps.refl)

/-- rampartref21.Is. -/
theorem f18 (a b : Tup) : ACalls Tryd.prog W0 18 [.agg a.c, .agg b.c] H fun e H' => e = .ret (.b (decide (a = b))) ∧ Grows H H' := by
  refine acalls_by k18 (by simp) ?_
  have hk : ∀ x y : AO, Grows H ((H.alloc x).alloc y) := fun _ _ => Keeps.alloc' (Keeps.alloc' Keeps.refl)
  rw [show decide (a = b) = decide (a.p = b.p ∧ a.s = b.s ∧ a.d = b.d ∧ a.sp = b.sp ∧ a.dp = b.dp) by simp only [Tup.eq_iff]]
  by_cases h1 : a.p = b.p <;> by_cases h2 : a.s = b.s <;> by_cases h3 : a.d = b.d <;> by_cases h4 : a.sp = b.sp <;> by_cases h5 : a.dp = b.dp <;> simp -dsimp [h1, h2, h3, h4, h5, hk]

/-- rampartref21.Same. -/
theorem f17 (a b : Tup) : ACalls Tryd.prog W0 17 [.agg a.c, .agg b.c] H fun e H' => e = .ret (.tup [.i .i64 (sameDir a b), .b (same a b)]) ∧ Grows H H' := by
  refine acalls_by k17 (by simp) ?_
  simp -dsimp
  refine (f18 a b).next ?_
  rintro H2 g2
  have g1 : Grows H H2 := Keeps.trans (Keeps.alloc' (Keeps.alloc' Keeps.refl)) g2
  have ga : H2.get H.next = some (.cells .rw a.c) := Grows.at g2 (by simp <;> omega) (by simp)
  have gb : H2.get (H.next + 1) = some (.cells .rw b.c) := Grows.at g2 (by simp <;> omega) (by simp)
  by_cases h1 : a = b
  · subst h1
    simp -dsimp [sameDir, same, g1]
  · simp -dsimp [h1, ldCells_of ga, ldCells_of gb]
    refine (f19 b).next ?_
    rintro H3 g3
    have ga3 := Grows.at g3 (Nat.lt_of_lt_of_le (by simp <;> omega) g2.next) ga
    simp -dsimp [ldCells_of ga3]
    refine (f18 a b.turn).next ?_
    rintro H4 g4
    have g14 := (g1.trans g3).trans g4
    by_cases h2 : a = b.turn
    · simp -dsimp [sameDir, same, h1, ← h2, g14]
    · simp -dsimp [sameDir, same, h1, h2, g14]

end Go.Proofs.YtmdmabedfleacaaDoor
