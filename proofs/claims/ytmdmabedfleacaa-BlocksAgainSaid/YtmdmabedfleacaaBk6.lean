/- A part of the proof: contracts of functions, over the abstract machine. -/
import Derived.Test.YtmdmabedfleacaaBk5
set_option linter.unusedVariables false
set_option linter.unusedSimpArgs false
set_option linter.all false
namespace Go.Proofs.Ytmdmabedfleacaa
open Ram Go

variable {W0 : World} {H : AH}

def tx : Tup := ⟨6, 1, 2, 3, 4⟩
def ty : Tup := ⟨6, 9, 0, 0, 0⟩

theorem over_no {now most : Int} {x : Blk} (h : IntKind.i64.wrap (now - x.at_) < most) : overB now most x = false := by simp [overB]; omega
theorem over_yes {now most : Int} {x : Blk} (h : most ≤ IntKind.i64.wrap (now - x.at_)) : overB now most x = true := by simp [overB]; omega

theorem any_one {x : Blk} {p : Blk → Bool} : [x].any p = p x := by simp
theorem same_self (t : Tup) : same t t = true := by simp [same]
theorem same_yx : same ty tx = false := by decide
set_option maxHeartbeats 2000000 in
theorem f6 (a0 a1 : Int) (a2 : Bool) : ACalls Try.prog W0 6 [.i .i64 a0, .i .i64 a1, .b a2] H fun e H' => e = .ret (.b true) := by
  refine acalls_by k6 (by simp) ?_
  have h1 := Int.emod_nonneg a0 (show (50 : Int) ≠ 0 by omega)
  have h2 := Int.emod_lt_of_pos a0 (show (0 : Int) < 50 by omega)
  obtain ⟨k, hk⟩ : ∃ k, k = 2 + a0 % 50 := ⟨_, rfl⟩
  have h3 := Int.emod_nonneg a1 (show k ≠ 0 by omega)
  have h4 := Int.emod_lt_of_pos a1 (show (0 : Int) < k by omega)
  obtain ⟨w, hw⟩ : ∃ w, w = a1 % k := ⟨_, rfl⟩
  rw [← hw] at h3 h4
  iterate 7 rw [awp_assoc]
  refine awp_cut (fun env H => ∃ b i10 i11 i12 F z, (z = tx ∨ z = tx.turn) ∧ env.get 7 = some (.i .i64 k) ∧ env.get 8 = some (.i .i64 w) ∧ env.get 9 = some (.p (some (b, 0))) ∧ env.get 10 = some (.p (some (i10, 0))) ∧ env.get 11 = some (.p (some (i11, 0))) ∧ env.get 12 = some (.p (some (i12, 0))) ∧
    H.get i10 = some (.cells .rw tx.c) ∧ H.get i11 = some (.cells .rw ty.c) ∧ H.get i12 = some (.cells .rw z.c) ∧ i10 < H.next ∧ i11 < H.next ∧ i12 < H.next ∧ BRep H b 0 k [] F ∧ ¬ F i10 ∧ ¬ F i11 ∧ ¬ F i12) ?_ ?_
  · simp -dsimp
    refine (f10 (n := a0) (m := 50) (by omega) (by omega)).mono ?_
    rintro _ _ ⟨rfl, rfl⟩
    have hw1 : IntKind.i64.wrap (2 + a0 % 50) = k := by rw [wrap_i64 (by omega) (by omega), hk]
    simp -dsimp [hw1]
    refine (f10 (n := a1) (m := k) (by omega) (by omega)).mono ?_
    rintro _ _ ⟨rfl, rfl⟩
    rw [← hw]
    simp -dsimp
    refine (f15 k).mono ?_
    rintro _ H1 ⟨b, rfl, hb1, g1, hb⟩
    have hm : mostOf k = k := by unfold mostOf; rw [if_neg (show ¬ 100000 < k by omega), if_pos (by omega)]
    rw [hm] at hb1
    have lb := hb1.own hb1.head
    have gr : ∀ a b c : AO, Grows H1 (((H1.alloc a).alloc b).alloc c) := fun a b c => Keeps.alloc' (Keeps.alloc' (Keeps.alloc' Keeps.refl))
    have nF : ∀ i, H1.next ≤ i → ¬ Up NoId H H1 i := by
      rintro i hi (h | h)
      · exact h
      · omega
    cases a2 with
    | true =>
      simp -dsimp
      refine hold_mk ⟨b, H1.next, H1.next + 1, H1.next + 1 + 1, Up NoId H H1, tx.turn, .inr rfl, by simp, by simp, by simp, by simp, by simp, by simp, ?_, ?_, ?_, by simp <;> omega, by simp <;> omega, by simp <;> omega,
        hb1.grow ?_, nF _ (by omega), nF _ (by omega), nF _ (by omega)⟩
      · simp [tx] <;> omega
      · simp [ty] <;> omega
      · simp [tx, Tup.turn]
      · exact Keeps.alloc' (Keeps.set_new (Keeps.set_new (Keeps.alloc' (Keeps.alloc' Keeps.refl)) (Nat.le_refl _)) (Nat.le_succ _))
    | false =>
      simp -dsimp
      refine hold_mk ⟨b, H1.next, H1.next + 1, H1.next + 1 + 1, Up NoId H H1, tx, .inl rfl, by simp, by simp, by simp, by simp, by simp, by simp, ?_, ?_, ?_, by simp <;> omega, by simp <;> omega, by simp <;> omega,
        hb1.grow ?_, nF _ (by omega), nF _ (by omega), nF _ (by omega)⟩
      · simp [tx] <;> omega
      · simp [ty] <;> omega
      · simp [tx]
      · exact Keeps.alloc' (Keeps.set_new (Keeps.set_new (Keeps.alloc' (Keeps.alloc' Keeps.refl)) (Nat.le_refl _)) (Nat.le_succ _))
  · rintro env H1 ⟨b, i10, i11, i12, F, z, hz, e7, e8, e9, e10, e11, e12, g10, g11, g12, l10, l11, l12, hb, n10, n11, n12⟩
    simp -dsimp [e7, e8, e9, e10, e11, e12, ldCells_of g10]
    refine (f17 tx hb).mono ?_
    rintro _ H2 ⟨rfl, hb2, hk2⟩
    rw [show addB [] 0 tx = [⟨tx, 0⟩] by decide] at hb2
    have g10 := hk2.at l10 n10 g10
    have g11 := hk2.at l11 n11 g11
    have g12 := hk2.at l12 n12 g12
    have n10 := Up.not (H' := H2) n10 l10
    have n11 := Up.not (H' := H2) n11 l11
    have n12 := Up.not (H' := H2) n12 l12
    have l10 := Nat.lt_of_lt_of_le l10 hk2.next
    have l11 := Nat.lt_of_lt_of_le l11 hk2.next
    have l12 := Nat.lt_of_lt_of_le l12 hk2.next
    simp -dsimp [e7, e8, e9, e10, e11, e12, ldCells_of g11]
    refine (f17 ty hb2).mono ?_
    rintro _ H3 ⟨rfl, hb3, hk3⟩
    rw [show addB [⟨tx, 0⟩] 0 ty = [⟨tx, 0⟩, ⟨ty, 0⟩] by decide] at hb3
    have g10 := hk3.at l10 n10 g10
    have g11 := hk3.at l11 n11 g11
    have g12 := hk3.at l12 n12 g12
    have n10 := Up.not (H' := H3) n10 l10
    have n11 := Up.not (H' := H3) n11 l11
    have n12 := Up.not (H' := H3) n12 l12
    have l10 := Nat.lt_of_lt_of_le l10 hk3.next
    have l11 := Nat.lt_of_lt_of_le l11 hk3.next
    have l12 := Nat.lt_of_lt_of_le l12 hk3.next
    simp -dsimp [e7, e8, e9, e10, e11, e12]
    refine (f18 w hb3).mono ?_
    rintro _ H4 ⟨rfl, hb4, hk4⟩
    have hw2 : IntKind.i64.wrap (0 + stepOf w) = w := by
      unfold stepOf
      rw [if_neg (show ¬ 100000 < w by omega)]
      split <;> rw [wrap_i64 (by omega) (by omega)] <;> omega
    rw [hw2] at hb4 ⊢
    have hfl : ([⟨tx, 0⟩, ⟨ty, 0⟩] : List Blk).filter (fun x => !overB w k x) = [⟨tx, 0⟩, ⟨ty, 0⟩] := by
      have o1 : ∀ t, overB w k ⟨t, 0⟩ = false := fun t => over_no (by simp only; rw [wrap_i64 (by omega) (by omega)]; omega)
      simp [o1]
    rw [hfl] at hb4 ⊢
    have g10 := hk4.at l10 n10 g10
    have g11 := hk4.at l11 n11 g11
    have g12 := hk4.at l12 n12 g12
    have n10 := Up.not (H' := H4) n10 l10
    have n11 := Up.not (H' := H4) n11 l11
    have n12 := Up.not (H' := H4) n12 l12
    have l10 := Nat.lt_of_lt_of_le l10 hk4.next
    have l11 := Nat.lt_of_lt_of_le l11 hk4.next
    have l12 := Nat.lt_of_lt_of_le l12 hk4.next
    simp -dsimp [e7, e8, e9, e10, e11, e12, ldCells_of g12]
    refine (f17 z hb4).mono ?_
    rintro _ H5 ⟨rfl, hb5, hk5⟩
    have had : addB [⟨tx, 0⟩, ⟨ty, 0⟩] w z = [⟨ty, 0⟩, ⟨tx, w⟩] := by
      rcases hz with rfl | rfl <;> rfl
    rw [had] at hb5
    have g10 := hk5.at l10 n10 g10
    have g11 := hk5.at l11 n11 g11
    have n10 := Up.not (H' := H5) n10 l10
    have n11 := Up.not (H' := H5) n11 l11
    have l10 := Nat.lt_of_lt_of_le l10 hk5.next
    have l11 := Nat.lt_of_lt_of_le l11 hk5.next
    simp -dsimp [e7, e8, e9, e10, e11, e12]
    refine (f19 hb5).mono ?_
    rintro _ H6 ⟨v, rfl, hsv, gr6⟩
    rcases hsv with ⟨hnil, _⟩ | ⟨id, o, cap, cs, rfl, hF6, hsv⟩
    · simp at hnil
    have hb6 := hb5.grow gr6
    have g10 := Grows.at gr6 l10 g10
    have g11 := Grows.at gr6 l11 g11
    have l10 := Nat.lt_of_lt_of_le l10 gr6.next
    have l11 := Nat.lt_of_lt_of_le l11 gr6.next
    have c1 := hsv.cell (i := 0) (j := 1) rfl (by omega)
    have c2 := hsv.cell (i := 1) (j := 1) rfl (by omega)
    have c3 := hsv.cell (i := 1) (j := 3) rfl (by omega)
    simp [tupRow, tx, ty] at c1 c2 c3
    simp -dsimp [e7, e8, e9, e10, e11, e12, hsv.get, c1, c2, c3]
    by_cases hw0 : 0 < w
    · have hw3 : IntKind.i64.wrap (k - w) = k - w := wrap_i64 (by omega) (by omega)
      simp -dsimp [e7, e8, e9, e10, e11, e12, hw0, hw3]
      refine (f18 (k - w) hb6).mono ?_
      intro e' H7 h
      have hb7 := h.2.1
      have hk7 := h.2.2
      rw [h.1]
      clear h
      have hw4 : IntKind.i64.wrap (w + stepOf (k - w)) = k := by
        unfold stepOf
        rw [if_neg (show ¬ 100000 < k - w by omega), if_pos (by omega), wrap_i64 (by omega) (by omega)]; omega
      rw [hw4] at hb7 ⊢
      have hf7 : ([⟨ty, 0⟩, ⟨tx, w⟩] : List Blk).filter (fun x => !overB k k x) = [⟨tx, w⟩] := by
        have o1 : overB k k ⟨ty, 0⟩ = true := over_yes (by simp only; rw [wrap_i64 (by omega) (by omega)]; omega)
        have o2 : overB k k ⟨tx, w⟩ = false := over_no (by simp only; rw [wrap_i64 (by omega) (by omega)]; omega)
        simp [o1, o2]
      rw [hf7] at hb7 ⊢
      have g10 := hk7.at l10 n10 g10
      have g11 := hk7.at l11 n11 g11
      simp -dsimp [e7, e8, e9, e10, e11, e12, hw0, ldCells_of g10]
      refine (f20 tx hb7).mono ?_
      intro e' H8 h
      have gr8 := h.2
      rw [h.1]
      clear h
      rw [any_one, same_self]
      have g11 := Grows.at gr8 (Nat.lt_of_lt_of_le l11 hk7.next) g11
      simp -dsimp [e7, e8, e9, e10, e11, e12, hw0, ldCells_of g11]
      refine (f20 ty (hb7.grow gr8)).mono ?_
      intro e' H9 h
      have gr9 := h.2
      rw [h.1]
      clear h
      rw [any_one, same_yx]
      have gr89 := gr8.trans gr9
      have n10 := Up.not (H' := H7) n10 l10
      have l10 := Nat.lt_of_lt_of_le l10 hk7.next
      have g10 := Grows.at gr89 l10 g10
      simp -dsimp [e7, e8, e9, e10, e11, e12, hw0]
      refine (f25 (hb7.grow gr89)).mono ?_
      intro e' H10 h
      have hb10 := h.2.1
      have hk10 := h.2.2
      rw [h.1]
      clear h
      have g10 := hk10.at (Nat.lt_of_lt_of_le l10 gr89.next) n10 g10
      simp -dsimp [e7, e8, e9, e10, e11, e12, hw0, ldCells_of g10]
      refine (f20 tx hb10).mono ?_
      intro e' H11 h
      have gr11 := h.2
      rw [h.1]
      clear h
      simp -dsimp [e7, e8, e9, e10, e11, e12, hw0]
      refine (f25 (hb10.grow gr11)).mono ?_
      intro e' H12 h
      have hb12 := h.2.1
      have hk12 := h.2.2
      rw [h.1]
      clear h
      simp -dsimp [e7, e8, e9, e10, e11, e12, hw0]
      refine f21.mono ?_
      rintro _ H13 rfl
      simp -dsimp
    · simp -dsimp [e7, e8, e9, e10, e11, e12, hw0]
      refine (f25 hb6).mono ?_
      intro e' H10 h
      have hb10 := h.2.1
      have hk10 := h.2.2
      rw [h.1]
      clear h
      have g10 := hk10.at l10 n10 g10
      simp -dsimp [e7, e8, e9, e10, e11, e12, hw0, ldCells_of g10]
      refine (f20 tx hb10).mono ?_
      intro e' H11 h
      have gr11 := h.2
      rw [h.1]
      clear h
      simp -dsimp [e7, e8, e9, e10, e11, e12, hw0]
      refine (f25 (hb10.grow gr11)).mono ?_
      intro e' H12 h
      have hb12 := h.2.1
      have hk12 := h.2.2
      rw [h.1]
      clear h
      simp -dsimp [e7, e8, e9, e10, e11, e12, hw0]
      refine f21.mono ?_
      rintro _ H13 rfl
      simp -dsimp
end Go.Proofs.Ytmdmabedfleacaa
