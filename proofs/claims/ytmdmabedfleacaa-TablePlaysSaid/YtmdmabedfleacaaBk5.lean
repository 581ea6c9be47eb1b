/- A part of the proof: contracts of functions, over the abstract machine. -/
import Derived.Test.YtmdmabedfleacaaBk4
import Derived.Test.YtmdmabedfleacaaRaD
set_option linter.unusedVariables false
set_option linter.unusedSimpArgs false
set_option linter.all false
namespace Go.Proofs.Ytmdmabedfleacaa
open Ram Go

variable {W0 : World} {H : AH}

theorem BRep.keep {b : Nat} {now most : Int} {l : List Blk} {F G : Nat → Prop} {H H' : AH} (h : BRep H b now most l F) (hk : Keeps G H H') (hf : ∀ i, F i → ¬ G i) : BRep H' b now most l F := by
  obtain ⟨c4, c3, v, n4, n3, Fb, F4, F3, hF, hl, gb, g4, g3, hs⟩ := h
  exact ⟨c4, c3, v, n4, n3, Fb, F4, F3, fun i hi => Nat.lt_of_lt_of_le (hF i hi) hk.next, hl, hk.at (hF _ Fb) (hf _ Fb) gb, hk.at (hF _ F4) (hf _ F4) g4, hk.at (hF _ F3) (hf _ F3) g3, hs.keep hk fun i h => hf i h.1⟩
theorem BRep.grow {b : Nat} {now most : Int} {l : List Blk} {F : Nat → Prop} {H H' : AH} (h : BRep H b now most l F) (hk : Grows H H') : BRep H' b now most l F := h.keep hk fun _ _ h => h
theorem BRep.own {b : Nat} {now most : Int} {l : List Blk} {F : Nat → Prop} (h : BRep H b now most l F) {i : Nat} (hi : F i) : i < H.next := by
  obtain ⟨c4, c3, v, n4, n3, Fb, F4, F3, hF, hl, gb, g4, g3, hs⟩ := h
  exact hF i hi

theorem BRep.head {b : Nat} {now most : Int} {l : List Blk} {F : Nat → Prop} (h : BRep H b now most l F) : F b := by
  obtain ⟨c4, c3, v, n4, n3, Fb, F4, F3, hF, hl, gb, g4, g3, hs⟩ := h
  exact Fb

/-- rampartlaw00.Place. -/
theorem f10 {n m : Int} (hm : 0 < m) (hm' : m ≤ 4611686018427387904) : ACalls Try.prog W0 10 [.i .i64 n, .i .i64 m] H fun e H' => e = .ret (.i .i64 (n % m)) ∧ H = H' := by
  refine acalls_by k10 (by simp) ?_
  have h0 : ¬ m = 0 := by omega
  have hlt := Int.tmod_lt_of_pos n hm
  by_cases h1 : n.tmod m < 0
  · have : n % m = n.tmod m + m := by
      rw [Int.tmod_eq_emod] at h1 ⊢
      split at h1
      · have := Int.emod_nonneg n h0; omega
      · next h => rw [if_neg h]; omega
    simp -dsimp [h0, h1]
    have hb := Int.emod_nonneg n h0
    have hb' := Int.emod_lt_of_pos n hm
    rw [wrap_i64 (by omega) (by omega), this]
  · have : n % m = n.tmod m := by
      rw [Int.tmod_eq_emod] at h1 ⊢
      split
      · omega
      · next h => rw [if_neg h] at h1; have := Int.emod_lt_of_pos n hm; omega
    simp -dsimp [h0, h1, this]

/-- The document's example. -/
theorem f21 : ACalls Try.prog W0 21 [] H fun e H' => e = .ret (.b true) := by
  refine acalls_by k21 (by simp) ?_
  simp -dsimp
  refine (f15 5).mono ?_
  rintro _ H1 ⟨b, rfl, hb1, g1, hb⟩
  simp -dsimp
  refine (f17 ⟨6, 1, 2, 0, 0⟩ hb1).mono ?_
  rintro _ H2 ⟨rfl, hb2, _⟩
  rw [show addB [] 0 ⟨6, 1, 2, 0, 0⟩ = [⟨⟨6, 1, 2, 0, 0⟩, 0⟩] by decide, show mostOf 5 = 5 by decide] at hb2
  simp -dsimp
  refine (f20 ⟨6, 2, 1, 0, 0⟩ hb2).mono ?_
  rintro _ H3 ⟨rfl, g3⟩
  have e1 : ([(⟨⟨6, 1, 2, 0, 0⟩, 0⟩ : Blk)].any fun x => same ⟨6, 2, 1, 0, 0⟩ x.t) = true := by decide
  rw [e1]
  simp -dsimp
  refine (f18 4 (hb2.grow g3)).mono ?_
  rintro _ H4 ⟨rfl, hb4, _⟩
  have e2 : ([(⟨⟨6, 1, 2, 0, 0⟩, 0⟩ : Blk)].filter fun x => !overB (IntKind.i64.wrap (0 + stepOf 4)) 5 x) = [⟨⟨6, 1, 2, 0, 0⟩, 0⟩] := by decide
  rw [e2] at hb4 ⊢
  simp -dsimp
  refine (f18 1 hb4).mono ?_
  rintro _ H5 ⟨rfl, hb5, _⟩
  have e3 : ([(⟨⟨6, 1, 2, 0, 0⟩, 0⟩ : Blk)].filter fun x => !overB (IntKind.i64.wrap (IntKind.i64.wrap (0 + stepOf 4) + stepOf 1)) 5 x) = [] := by decide
  rw [e3] at hb5 ⊢
  simp -dsimp
  refine (f19 hb5).mono ?_
  rintro _ H6 ⟨v, rfl, hs, _⟩
  obtain ⟨e, a, cap, rfl⟩ := hs.len
  simp -dsimp
end Go.Proofs.Ytmdmabedfleacaa
