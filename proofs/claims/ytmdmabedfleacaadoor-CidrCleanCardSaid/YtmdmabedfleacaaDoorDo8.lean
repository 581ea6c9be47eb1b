/- A part of the proof: contracts of functions, over the abstract machine. -/
import Derived.Test.YtmdmabedfleacaaDoorDo7
set_option linter.unusedVariables false
set_option linter.unusedSimpArgs false
set_option linter.all false
namespace Go.Proofs.YtmdmabedfleacaaDoor
open Ram Go

variable {W0 : World} {H : AH}

theorem none_of {x t : Tup} (h1 : x ≠ t) (h2 : x ≠ t.turn) : same x t = false ∧ sameDir x t = 0 ∧ same t x = false ∧ sameDir t x = 0 := by
  have h3 : t ≠ x.turn := fun e => h2 (by rw [e, turn_turn])
  exact ⟨(same_none h1 h2).1, (same_none h1 h2).2, (same_none h1.symm h3).1, (same_none h1.symm h3).2⟩

/-- The law TupleNone. -/
theorem f6 (A : AH) (args : List V) (ht : Tab W0) (h : HasA A [.agg tupKs, .one (.i .i64)] args) : ACalls Tryd.prog W0 6 args A fun e _ => e = .ret (.b true) := by
  obtain ⟨t, _, rfl, ot, h⟩ := tup_arg h
  obtain ⟨how, _, rfl, _, h⟩ := h.invi
  rw [h.inv0]
  refine acalls_in k6 (by simp) ?_
  rw [awp_assoc, awp_assoc]
  refine awp_cut (fun env H2 => env.get 2 = some (.p (some (A.next, 0))) ∧ env.get 5 = some (.p (some (A.next + 1, 0))) ∧ H2.next = A.next + 2 ∧ H2.get A.next = some (.cells .rw t.c) ∧ ∃ x : Tup, H2.get (A.next + 1) = some (.cells .rw x.c) ∧ x ≠ t ∧ x ≠ t.turn) ?_ ?_
  · simp -dsimp
    refine (f12 (n := how) (m := 5) (by omega) (by omega)).next ?_
    rintro _ rfl
    have hk0 := Int.emod_nonneg how (show (5 : Int) ≠ 0 by omega)
    have hk6 := Int.emod_lt_of_pos how (show (0 : Int) < 5 by omega)
    obtain ⟨q, hq⟩ : ∃ q, q = how % 5 := ⟨_, rfl⟩
    rw [← hq] at hk0 hk6 ⊢
    by_cases q0 : q = 0
    · subst q0
      simp -dsimp [splice]
      refine hold_mk ⟨by simp, by simp, by simp, by simp, ⟨xorI .i64 t.p 2, t.s, t.d, t.sp, t.dp⟩, by simp, ?_, ?_⟩
      · intro e; exact xor64_ne (a := t.p) (b := 2) (by decide) (congrArg Tup.p e)
      · intro e; exact xor64_ne (a := t.p) (b := 2) (by decide) (congrArg Tup.p e)
    · by_cases q1 : q = 1
      · subst q1
        simp -dsimp [splice]
        refine hold_mk ⟨by simp, by simp, by simp, by simp, ⟨t.p, xorI .u32 t.s 1048576, t.d, t.sp, t.dp⟩, by simp, ?_, ?_⟩
        · intro e; exact xor32_ne (a := t.s) (b := 1048576) (by decide) (congrArg Tup.s e)
        · intro e; exact xor32_ne (a := t.s) (b := 1048576) (by decide) ((congrArg Tup.s e).trans (congrArg Tup.d e))
      · by_cases q2 : q = 2
        · subst q2
          simp -dsimp [splice]
          refine hold_mk ⟨by simp, by simp, by simp, by simp, ⟨t.p, t.s, xorI .u32 t.d 512, t.sp, t.dp⟩, by simp, ?_, ?_⟩
          · intro e; exact xor32_ne (a := t.d) (b := 512) (by decide) (congrArg Tup.d e)
          · intro e; exact xor32_ne (a := t.d) (b := 512) (by decide) ((congrArg Tup.d e).trans (congrArg Tup.s e))
        · by_cases q3 : q = 3
          · subst q3
            simp -dsimp [splice]
            refine hold_mk ⟨by simp, by simp, by simp, by simp, ⟨t.p, t.s, t.d, xorI .i64 t.sp 4, t.dp⟩, by simp, ?_, ?_⟩
            · intro e; exact xor64_ne (a := t.sp) (b := 4) (by decide) (congrArg Tup.sp e)
            · intro e; exact xor64_ne (a := t.sp) (b := 4) (by decide) ((congrArg Tup.sp e).trans (congrArg Tup.dp e))
          · simp -dsimp [splice, q0, q1, q2, q3]
            refine hold_mk ⟨by simp, by simp, by simp, by simp, ⟨t.p, t.s, t.d, t.sp, xorI .i64 t.dp 8⟩, by simp, ?_, ?_⟩
            · intro e; exact xor64_ne (a := t.dp) (b := 8) (by decide) (congrArg Tup.dp e)
            · intro e; exact xor64_ne (a := t.dp) (b := 8) (by decide) ((congrArg Tup.dp e).trans (congrArg Tup.sp e))
  · rintro env H2 ⟨e2, e5, n2, gt, x, gx, hx1, hx2⟩
    obtain ⟨s1, s2, s3, s4⟩ := none_of hx1 hx2
    simp -dsimp [e2, e5, ldCells_of gt, ldCells_of gx]
    refine (f16 x t).next ?_
    rintro H3 h3
    have gt3 := Grows.at h3 (by omega) gt
    have gx3 := Grows.at h3 (by omega) gx
    rw [s1, s2]
    simp -dsimp [e2, e5, ldCells_of gt3, ldCells_of gx3]
    refine (f16 t x).next ?_
    rintro H4 h4
    rw [s3, s4]
    simp -dsimp
    refine (f15 ht).next ?_
    rintro H8 h8
    simp -dsimp
    exact fin_mk rfl
end Go.Proofs.YtmdmabedfleacaaDoor
