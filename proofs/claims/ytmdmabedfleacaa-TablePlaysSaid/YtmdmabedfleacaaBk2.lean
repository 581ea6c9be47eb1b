/- A part of the proof: contracts of functions, over the abstract machine. -/
import Derived.Test.YtmdmabedfleacaaBk1
set_option linter.unusedVariables false
set_option linter.unusedSimpArgs false
set_option linter.all false
namespace Go.Proofs.Ytmdmabedfleacaa
open Ram Go

variable {W0 : World} {H : AH}

/-- A tuple; a blocked one. -/
structure Tup where
  p : Int
  s : Int
  d : Int
  sp : Int
  dp : Int
  deriving DecidableEq
@[simp] def Tup.c (t : Tup) : List V := [.i .i64 t.p, .i .u32 t.s, .i .u32 t.d, .i .i64 t.sp, .i .i64 t.dp]
def Tup.turn (t : Tup) : Tup := ⟨t.p, t.d, t.s, t.dp, t.sp⟩
structure Blk where
  t : Tup
  at_ : Int
  deriving DecidableEq
@[simp] def Blk.c (x : Blk) : List V := [.i .i64 x.t.p, .i .u32 x.t.s, .i .u32 x.t.d, .i .i64 x.t.sp, .i .i64 x.t.dp, .i .i64 x.at_]

def sameDir (a b : Tup) : Int := if a = b then 0 else if a = b.turn then 1 else 0
def same (a b : Tup) : Bool := decide (a = b) || decide (a = b.turn)

theorem Tup.eq_iff {a b : Tup} : a = b ↔ a.p = b.p ∧ a.s = b.s ∧ a.d = b.d ∧ a.sp = b.sp ∧ a.dp = b.dp := by
  cases a; cases b; simp


theorem sameAt_tup (a b : Tup) : sameAt [(0, .i), (1, .i), (2, .i), (3, .i), (4, .i)] a.c b.c = some (decide (a = b)) := by
  simp -dsimp [sameAt, sameCell]
  by_cases h1 : a.p = b.p <;> by_cases h2 : a.s = b.s <;> by_cases h3 : a.d = b.d <;> by_cases h4 : a.sp = b.sp <;> by_cases h5 : a.dp = b.dp <;> simp -dsimp [h1, h2, h3, h4, h5, Tup.eq_iff]

/-- tuple.Turn. -/
theorem f67 (t : Tup) : ACalls Try.prog W0 67 [.agg t.c] H fun e H' => e = .ret (.agg t.turn.c) ∧ Grows H H' := by
  refine acalls_by k67 (by simp) ?_
  simp -dsimp [Tup.turn, splice]
  exact Keeps.alloc' (Keeps.alloc' Keeps.refl)

/-- tuple.Same. -/
theorem f59 (a b : Tup) : ACalls Try.prog W0 59 [.agg a.c, .agg b.c] H fun e H' => e = .ret (.tup [.i .i64 (sameDir a b), .b (same a b)]) ∧ Grows H H' := by
  refine acalls_by k59 (by simp) ?_
  have e1 := sameAt_tup a b
  have e2 := sameAt_tup a b.turn
  simp only [Tup.c] at e1 e2
  simp -dsimp [e1]
  by_cases h1 : a = b
  · simp -dsimp [h1, sameDir, same]
    exact Keeps.alloc' (Keeps.alloc' Keeps.refl)
  · simp -dsimp [h1]
    refine (f67 b).mono ?_
    rintro _ H2 ⟨rfl, hg⟩
    have g1 : H2.get H.next = some (.cells .rw a.c) := hg.at (by simp; omega) (by simp)
    simp only [Tup.c] at g1
    have g2 : Grows H H2 := Keeps.trans (Keeps.alloc' (Keeps.alloc' Keeps.refl)) hg
    simp -dsimp [ldCells_of g1, e2]
    by_cases h2 : a = b.turn
    · simp -dsimp [h2, sameDir, same, h1]
      rw [← h2]; simp -dsimp [h1, g2]
    · simp -dsimp [h2, sameDir, same, h1, g2]

/-- blocks.same's function. -/
theorem f66 (t : Tup) (x : Blk) {ct : Nat} (hc : H.get ct = some (.cells .rw t.c)) (lc : ct < H.next) : ACalls Try.prog W0 66 [.agg x.c, .p (some (ct, 0))] H fun e H' => e = .ret (.b (same t x.t)) ∧ Grows H H' := by
  refine acalls_by k66 (by simp) ?_
  simp only [Tup.c] at hc
  simp -dsimp [ldCells_of hc, Nat.ne_of_lt lc]
  refine (f59 t x.t).mono ?_
  rintro _ H2 ⟨rfl, hg⟩
  simp -dsimp
  exact Keeps.trans (Keeps.alloc' Keeps.refl) hg

/-- blocks.same. -/
theorem f50 (t : Tup) : ACalls Try.prog W0 50 [.agg t.c] H fun e H' => e = .ret (.f (.func 66) [] [.p (some (H.next, 0))]) ∧ H' = H.alloc (.cells .rw t.c) := by
  refine acalls_by k50 (by simp) ?_
  simp -dsimp

/-- It tests for a tuple. -/
theorem tests_same (t : Tup) {ct : Nat} {G : Nat → Prop} (hc : H.get ct = some (.cells .rw t.c)) (lc : ct < H.next) (hG : ¬ G ct) (l : List Blk) : Tests W0 H (.f (.func 66) [] [.p (some (ct, 0))]) Blk.c (fun x => same t x.t) l G :=
  ⟨66, [], [.p (some (ct, 0))], rfl, fun x _ H' hg => f66 t x (hg.at lc hG hc) (Nat.lt_of_lt_of_le lc hg.next)⟩
end Go.Proofs.Ytmdmabedfleacaa
