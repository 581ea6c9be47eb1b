/- A part of the proof: contracts of functions, over the abstract machine. -/
import Derived.Test.YtmdmabedfleacaaDoorDo5
import Derived.Test.YtmdmabedfleacaaDoorRaD
set_option linter.unusedVariables false
set_option linter.unusedSimpArgs false
set_option linter.all false
namespace Go.Proofs.YtmdmabedfleacaaDoor
open Ram Go

variable {W0 : World} {H : AH}

theorem has_i64 {a : Int} (h : IntKind.i64.has a) : -9223372036854775808 ≤ a ∧ a ≤ 9223372036854775807 := by
  simp [IntKind.has, IntKind.min, IntKind.max, IntKind.signed, IntKind.bits] at h; omega

abbrev tupKs : List KC := [.i .i64, .i .u32, .i .u32, .i .i64, .i .i64]
theorem tup_arg {A : AH} {tys : List ATy} {l : List V} (h : HasA A (.agg tupKs :: tys) l) : ∃ (t : Tup) (vs : List V), l = .agg t.c :: vs ∧ t.ok ∧ HasA A tys vs := by
  obtain ⟨v, vs, rfl, ⟨r, rfl, h1⟩, h2⟩ := h.inv
  obtain ⟨a, _, rfl, ha, h1⟩ := HasK.invi h1
  obtain ⟨b, _, rfl, hb, h1⟩ := HasK.invi h1
  obtain ⟨c, _, rfl, hc, h1⟩ := HasK.invi h1
  obtain ⟨d, _, rfl, hd, h1⟩ := HasK.invi h1
  obtain ⟨e, _, rfl, he, h1⟩ := HasK.invi h1
  rw [HasK.inv0 h1]
  exact ⟨⟨a, b, c, d, e⟩, vs, rfl, ⟨(has_i64 ha).1, (has_i64 ha).2, (has_u32 hb).1, (has_u32 hb).2, (has_u32 hc).1, (has_u32 hc).2, (has_i64 hd).1, (has_i64 hd).2, (has_i64 he).1, (has_i64 he).2⟩, h2⟩

theorem beq_b (x : Bool) : (x == x) = true := by simp

/-- The law TupleAll. -/
theorem f4 (A : AH) (args : List V) (ht : Tab W0) (h : HasA A [.agg tupKs, .agg tupKs] args) : ACalls Tryd.prog W0 4 args A fun e _ => e = .ret (.b true) := by
  obtain ⟨a, _, rfl, oa, h⟩ := tup_arg h
  obtain ⟨b, _, rfl, ob, h⟩ := tup_arg h
  rw [h.inv0]
  refine acalls_in k4 (by simp) ?_
  by_cases hg : a.p < -1099511627776 ∨ a.sp < -1099511627776 ∨ a.dp < -1099511627776
  · by_cases g1 : a.p < -1099511627776
    · simp -dsimp [g1]
      refine (f15 ht).next ?_
      rintro H2 g2
      simp -dsimp
      exact fin_mk rfl
    · by_cases g2 : a.sp < -1099511627776
      · simp -dsimp [g1, g2]
        refine (f15 ht).next ?_
        rintro H2 g2
        simp -dsimp
        exact fin_mk rfl
      · have g3 : a.dp < -1099511627776 := by omega
        simp -dsimp [g1, g2, g3]
        refine (f15 ht).next ?_
        rintro H2 g2
        simp -dsimp
        exact fin_mk rfl
  · have g1 : ¬ a.p < -1099511627776 := by omega
    have g2 : ¬ a.sp < -1099511627776 := by omega
    have g3 : ¬ a.dp < -1099511627776 := by omega
    have l0 : ∀ H : AH, A.next ≠ A.next + 1 := fun _ => by omega
    simp -dsimp [g1, g2, g3]
    refine (f16 a b).next ?_
    rintro H2 h2
    have n2 := h2.next
    simp at n2
    have ga2 : H2.get A.next = some (.cells .rw a.c) := Grows.at h2 (by simp <;> omega) (by simp)
    have gb2 : H2.get (A.next + 1) = some (.cells .rw b.c) := Grows.at h2 (by simp <;> omega) (by simp)
    simp -dsimp [ldCells_of ga2, ldCells_of gb2]
    refine (f17 a b).next ?_
    rintro H3 h3
    have n3 := h3.next
    have ga3 := Grows.at h3 (by omega) ga2
    simp -dsimp [ldCells_of ga3]
    refine (f13 a).next ?_
    rintro H4 h4
    have n4 := h4.next
    have ga4 := Grows.at h4 (by omega) ga3
    simp -dsimp [ldCells_of ga4]
    refine (f19 a).next ?_
    rintro H5 h5
    have n5 := h5.next
    have ga5 := Grows.at h5 (by omega) ga4
    simp -dsimp [ldCells_of ga5]
    refine (f18 a.turn a.turn).next ?_
    rintro H6 h6
    have n6 := h6.next
    have ga6 := Grows.at h6 (by omega) ga5
    simp -dsimp [ldCells_of ga6]
    refine (f14 ht a oa).next ?_
    rintro H7 h7
    have ga7 := Grows.at h7 (by omega) ga6
    simp -dsimp [ldCells_of ga7]
    refine (f20 a oa (by omega) (by omega) (by omega)).next ?_
    rintro H8 h8
    simp -dsimp [binS]
    refine (f15 ht).next ?_
    rintro H9 h9
    simp -dsimp
    exact fin_mk rfl
end Go.Proofs.YtmdmabedfleacaaDoor
