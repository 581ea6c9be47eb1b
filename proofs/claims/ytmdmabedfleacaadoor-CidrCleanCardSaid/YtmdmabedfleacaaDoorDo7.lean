/- A part of the proof: contracts of functions, over the abstract machine. -/
import Derived.Test.YtmdmabedfleacaaDoorDo6
set_option linter.unusedVariables false
set_option linter.unusedSimpArgs false
set_option linter.all false
namespace Go.Proofs.YtmdmabedfleacaaDoor
open Ram Go

variable {W0 : World} {H : AH}

theorem ofInt_wrap64 (n : Int) : BitVec.ofInt 64 (IntKind.i64.wrap n) = BitVec.ofInt 64 n := by
  apply BitVec.eq_of_toNat_eq
  simp only [BitVec.toNat_ofInt]
  simp [IntKind.wrap, IntKind.signed, IntKind.bits]
  omega
theorem ofInt_wrap32 (n : Int) : BitVec.ofInt 32 (IntKind.u32.wrap n) = BitVec.ofInt 32 n := by
  apply BitVec.eq_of_toNat_eq
  simp only [BitVec.toNat_ofInt]
  simp [IntKind.wrap, IntKind.signed, IntKind.bits]
theorem xor_self_zero {n : Nat} {a b : BitVec n} (h : a ^^^ b = a) : b = 0#n := by
  have : a ^^^ (a ^^^ b) = a ^^^ a := by rw [h]
  rwa [← BitVec.xor_assoc, BitVec.xor_self, BitVec.zero_xor] at this
theorem xor64_ne {a b : Int} (hb : BitVec.ofInt 64 b ≠ 0#64) : xorI .i64 a b ≠ a := by
  intro h
  rw [xor_eq] at h
  have h2 : BitVec.ofInt 64 (IntKind.i64.wrap (BitVec.ofInt 64 a ^^^ BitVec.ofInt 64 b).toNat) = BitVec.ofInt 64 a := congrArg _ h
  rw [ofInt_wrap64, BitVec.ofInt_natCast, BitVec.ofNat_toNat, BitVec.setWidth_eq] at h2
  exact hb (xor_self_zero h2)
theorem xor32_ne {a b : Int} (hb : BitVec.ofInt 32 b ≠ 0#32) : xorI .u32 a b ≠ a := by
  intro h
  rw [xor_eq] at h
  have h2 : BitVec.ofInt 32 (IntKind.u32.wrap (BitVec.ofInt 32 a ^^^ BitVec.ofInt 32 b).toNat) = BitVec.ofInt 32 a := congrArg _ h
  rw [ofInt_wrap32, BitVec.ofInt_natCast, BitVec.ofNat_toNat, BitVec.setWidth_eq] at h2
  exact hb (xor_self_zero h2)

theorem turn_turn (a : Tup) : a.turn.turn = a := rfl
theorem same_turn (a : Tup) : same a a.turn = true := by simp [same, turn_turn]
theorem same_self (a : Tup) : same a a = true := by simp [same]
theorem dir_self (a : Tup) : sameDir a a = 0 := by simp [sameDir]
theorem eq_turn (a : Tup) : a = a.turn ↔ a.s = a.d ∧ a.sp = a.dp := by
  rw [Tup.eq_iff]; simp [Tup.turn]; omega
theorem dir_turn (a : Tup) : sameDir a a.turn = if a.s = a.d ∧ a.sp = a.dp then 0 else 1 := by
  unfold sameDir
  simp only [eq_turn, turn_turn]
  split <;> simp
theorem same_p {a b : Tup} (h : a.p ≠ b.p) : same a b = false := by
  simp [same, Tup.eq_iff, Tup.turn]
  exact ⟨fun e => absurd e h, fun e => absurd e h⟩

/-- The law TupleTurns. -/
theorem f5 (A : AH) (args : List V) (ht : Tab W0) (h : HasA A [.agg tupKs] args) : ACalls Tryd.prog W0 5 args A fun e _ => e = .ret (.b true) := by
  obtain ⟨a, _, rfl, oa, h⟩ := tup_arg h
  rw [h.inv0]
  refine acalls_in k5 (by simp) ?_
  simp -dsimp
  refine (f13 a).next ?_
  rintro H2 h2
  have n2 := h2.next
  simp at n2
  have ga2 : H2.get A.next = some (.cells .rw a.c) := Grows.at h2 (by simp <;> omega) (by simp)
  simp -dsimp [ldCells_of ga2]
  refine (f13 a.turn).next ?_
  rintro H3 h3
  have n3 := h3.next
  simp at n3
  have ga3 : H3.get A.next = some (.cells .rw a.c) := Grows.at h3 (by simp <;> omega) (by rw [AH.get_alloc, if_neg (by omega)]; exact ga2)
  have gb3 : H3.get H2.next = some (.cells .rw a.turn.c) := Grows.at h3 (by simp <;> omega) (by simp)
  have x1 : A.next ≠ H3.next := by omega
  have x2 : H2.next ≠ H3.next := by omega
  rw [turn_turn]
  simp -dsimp [ldCells_of ga3, ldCells_of gb3, x1, x2]
  refine (f16 a a.turn).next ?_
  rintro H4 h4
  have n4 := h4.next
  simp at n4
  have ga4 : H4.get A.next = some (.cells .rw a.c) := Grows.at h4 (by simp <;> omega) (by rw [AH.get_alloc, if_neg (by omega)]; exact ga3)
  have gb4 : H4.get H2.next = some (.cells .rw a.turn.c) := Grows.at h4 (by simp <;> omega) (by rw [AH.get_alloc, if_neg (by omega)]; exact gb3)
  have gc4 : H4.get H3.next = some (.cells .rw a.c) := Grows.at h4 (by simp <;> omega) (by simp)
  rw [same_turn]
  simp -dsimp [ldCells_of ga4, ldCells_of gb4]
  refine (f16 a a).next ?_
  rintro H5 h5
  have n5 := h5.next
  have ga5 := Grows.at h5 (by omega) ga4
  have gc5 := Grows.at h5 (by omega) gc4
  rw [same_self, dir_self]
  have y1 : A.next ≠ H5.next := by omega
  obtain ⟨xp, hxp⟩ : ∃ z, z = xorI .i64 a.p 1 := ⟨_, rfl⟩
  have hxne : xp ≠ a.p := by rw [hxp]; exact xor64_ne (by decide)
  simp only [Tup.c] at ga5 gc5
  simp -dsimp [ga5, ldCells_of ga5, y1, ← hxp]
  have hsame : same a ⟨xp, a.s, a.d, a.sp, a.dp⟩ = false := same_p (by simpa using hxne.symm)
  refine (f16 a ⟨xp, a.s, a.d, a.sp, a.dp⟩).next ?_
  rintro H6 h6
  have n6 := h6.next
  simp at n6
  have ga6 := Grows.at h6 (by simp <;> omega) (show (H5.alloc _).get A.next = _ by rw [AH.get_alloc, if_neg (by omega)]; exact ga5)
  have gc6 := Grows.at h6 (by simp <;> omega) (show (H5.alloc _).get H3.next = _ by rw [AH.get_alloc, if_neg (by omega)]; exact gc5)
  rw [hsame, dir_turn]
  have ga6' : H6.get A.next = some (.cells .rw a.c) := ga6
  have gc6' : H6.get H3.next = some (.cells .rw a.c) := gc6
  by_cases e1 : a.s = a.d
  · have e1' := eq_true e1
    by_cases e2 : a.sp = a.dp
    · have e2' := eq_true e2
      simp -dsimp [ga6, ldCells_of ga6, ldCells_of gc6, e1', e2']
      refine (f18 a a).next ?_
      rintro H7 h7
      simp -dsimp
      refine (f15 ht).next ?_
      rintro H8 h8
      simp -dsimp
      exact fin_mk rfl
    · simp -dsimp [ga6, ldCells_of ga6, ldCells_of gc6, e1', e2]
      refine (f18 a a).next ?_
      rintro H7 h7
      simp -dsimp
      refine (f15 ht).next ?_
      rintro H8 h8
      simp -dsimp
      exact fin_mk rfl
  · simp -dsimp [ga6, ldCells_of ga6, ldCells_of gc6, e1]
    refine (f18 a a).next ?_
    rintro H7 h7
    simp -dsimp
    refine (f15 ht).next ?_
    rintro H8 h8
    simp -dsimp
    exact fin_mk rfl

theorem same_none {a b : Tup} (h1 : a ≠ b) (h2 : a ≠ b.turn) : same a b = false ∧ sameDir a b = 0 := by
  simp [same, sameDir, h1, h2]
end Go.Proofs.YtmdmabedfleacaaDoor
