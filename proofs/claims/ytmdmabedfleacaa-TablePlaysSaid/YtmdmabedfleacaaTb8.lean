/- A part of the proof: contracts of functions, over the abstract machine. -/
import Derived.Test.YtmdmabedfleacaaTb7
import Derived.Test.YtmdmabedfleacaaRaD
set_option linter.unusedVariables false
set_option linter.unusedSimpArgs false
set_option linter.all false
namespace Go.Proofs.Ytmdmabedfleacaa
open Ram Go

variable {W0 : World} {H : AH}

/-- The document's example. -/
theorem f12 : ACalls Try.prog W0 12 [] H fun e H' => e = .ret (.b true) := by
  refine acalls_in k12 (by simp) ?_
  simp -dsimp
  refine (f11 1 5).some ?_
  rintro tb H1 ⟨h1, g1⟩
  rw [show max 1 (min (1 : Int) 64) = 1 by decide] at h1
  simp -dsimp
  refine (f13 ⟨6, 1, 0, 0, 0⟩ h1 (by omega) (by omega)).next ?_
  rintro H2 ⟨h2, k2⟩
  have e1 : foundD [] ⟨6, 1, 0, 0, 0⟩ = none := rfl
  rw [show putD [] 1 0 0 ⟨6, 1, 0, 0, 0⟩ = [⟨⟨6, 1, 0, 0, 0⟩, 1, 0⟩] from rfl] at h2
  rw [e1] at h2 ⊢
  simp -dsimp
  refine (f13 ⟨6, 2, 0, 0, 0⟩ h2 (by simp) (by omega)).next ?_
  rintro H3 ⟨h3, k3⟩
  have e2 : foundD [⟨⟨6, 1, 0, 0, 0⟩, 1, 0⟩] ⟨6, 2, 0, 0, 0⟩ = none := rfl
  rw [show putD [⟨⟨6, 1, 0, 0, 0⟩, 1, 0⟩] 1 0 (none.elim ((0 : Int) + 1) fun x => 0) ⟨6, 2, 0, 0, 0⟩ = [⟨⟨6, 2, 0, 0, 0⟩, 2, 0⟩] from rfl] at h3
  rw [e2] at h3 ⊢
  simp -dsimp
  refine (f14 h3).some ?_
  rintro v H4 ⟨hs, g4⟩
  obtain ⟨e', a', cap', rfl⟩ := hs.len
  simp -dsimp
  exact fin_mk rfl

def lT (v : Nat) : Tup := ⟨6, v, 99, 5, 80⟩
theorem same_lT (i j : Nat) : same (lT i) (lT j) = decide (i = j) := by
  have h1 : (lT i = lT j) = (i = j) := by simp [lT]; omega
  have h2 : ¬ lT i = (lT j).turn := by simp [lT, Tup.turn]
  simp [same, h1, h2]

/-- What the law keeps. -/
def ordD (os : List Nat) (k v : Nat) : List Nat := ((os.filter fun x => decide (x ≠ v)) ++ [v]).drop (((os.filter fun x => decide (x ≠ v)) ++ [v]).length - k)

theorem found_l {ds : List Fd} {os : List Nat} {v : Nat} (h : ds.map (·.t) = os.map lT) (hv : v ∉ os) : foundD ds (lT v) = none := by
  unfold foundD
  rw [List.find?_eq_none]
  intro z hz
  have : z.t ∈ os.map lT := by rw [← h]; exact List.mem_map_of_mem hz
  obtain ⟨j, hj, e⟩ := List.mem_map.1 this
  rw [← e, same_lT]
  have : v ≠ j := fun e => hv (e ▸ hj)
  simp [this]

theorem put_l {ds : List Fd} {os : List Nat} {k v : Nat} {now last : Int} (h : ds.map (·.t) = os.map lT) (hnd : os.Nodup) (hk : 0 < k) (hl : os.length ≤ k) :
    (putD ds k now last (lT v)).map (·.t) = (ordD os k v).map lT ∧ (ordD os k v).Nodup ∧ (ordD os k v).length ≤ k := by
  by_cases hv : v ∈ os
  · obtain ⟨A, B, rfl⟩ := List.append_of_mem hv
    have hnd' := hnd
    rw [List.nodup_append, List.nodup_cons] at hnd'
    obtain ⟨n1, ⟨n2, n3⟩, n4⟩ := hnd'
    have hA : ∀ x ∈ A, x ≠ v := fun x hx e => n4 x hx v (by simp) e
    have hB : ∀ x ∈ B, x ≠ v := fun x hx e => n2 (e ▸ hx)
    have hfil : ((A ++ v :: B).filter fun x => decide (x ≠ v)) = A ++ B := by
      rw [List.filter_append, List.filter_cons_of_neg (by simp), List.filter_eq_self.2 (by simpa using hA), List.filter_eq_self.2 (by simpa using hB)]
    have ho : ordD (A ++ v :: B) k v = A ++ B ++ [v] := by
      unfold ordD
      rw [hfil]
      have : (A ++ B ++ [v]).length - k = 0 := by simp at hl ⊢; omega
      rw [this, List.drop_zero]
    rw [List.map_append, List.map_cons] at h
    obtain ⟨X, Z, rfl, hX, hZ⟩ := List.map_eq_append_iff.1 h
    obtain ⟨y, Y, rfl, hy, hY⟩ := List.map_eq_cons_iff.1 hZ
    have hno : ∀ z ∈ X, same (lT v) z.t = false := by
      intro z hz
      have : z.t ∈ A.map lT := by rw [← hX]; exact List.mem_map_of_mem hz
      obtain ⟨j, hj, e⟩ := List.mem_map.1 this
      rw [← e, same_lT]
      have := hA j hj
      simp; omega
    have hys : same (lT v) y.t = true := by rw [hy]; simp [same]
    have hf : foundD (X ++ y :: Y) (lT v) = some y := by
      unfold foundD
      rw [List.find?_eq_some_iff_append]
      exact ⟨hys, X, Y, rfl, fun z hz => by simp [hno z hz]⟩
    refine ⟨?_, ?_, ?_⟩
    · unfold putD
      rw [hf]
      simp only
      rw [touchD_mid hys hno, ho]
      simp [hX, hY, hy]
    · rw [ho, List.nodup_append, List.nodup_append]
      refine ⟨⟨n1, n3, fun a ha b hb => n4 a ha b (by simp [hb])⟩, by simp, fun a ha b hb => ?_⟩
      simp only [List.mem_singleton] at hb
      rw [hb]
      rcases List.mem_append.1 ha with ha | ha
      · exact hA a ha
      · exact hB a ha
    · rw [ho]; simp at hl ⊢; omega
  · have hfil : (os.filter fun x => decide (x ≠ v)) = os := by
      rw [List.filter_eq_self]; intro x hx; simp; intro e; exact hv (e ▸ hx)
    have hdl : ds.length = os.length := by have := congrArg List.length h; simpa using this
    have hn : (os ++ [v]).Nodup := by
      rw [List.nodup_append]; refine ⟨hnd, by simp, fun a ha b hb e => ?_⟩
      simp only [List.mem_singleton] at hb
      exact hv (by rw [← hb, ← e]; exact ha)
    have hf := found_l h hv
    unfold putD ordD
    rw [hf, hfil]
    simp only
    refine ⟨?_, hn.sublist (List.drop_sublist _ _), by simp; omega⟩
    unfold roomD
    by_cases hfull : (k : Int) ≤ ds.length
    · rw [if_pos hfull]
      have : (os ++ [v]).length - k = 1 := by simp; omega
      rw [this, List.drop_append_of_le_length (by omega), List.map_append, List.map_append, List.map_drop, List.map_drop, h]
      rfl
    · rw [if_neg hfull]
      have : (os ++ [v]).length - k = 0 := by simp; omega
      rw [this, List.drop_zero, List.map_append, List.map_append, h]
      rfl
end Go.Proofs.Ytmdmabedfleacaa
