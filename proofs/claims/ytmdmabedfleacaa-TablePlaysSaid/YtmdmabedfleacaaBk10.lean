/- A part of the proof: contracts of functions, over the abstract machine. -/
import Derived.Test.YtmdmabedfleacaaBk9
set_option linter.unusedVariables false
set_option linter.unusedSimpArgs false
set_option linter.all false
namespace Go.Proofs.Ytmdmabedfleacaa
open Ram Go

variable {W0 : World} {H : AH}

theorem eraseIdx_rows {α : Type} (l : List α) (i : Nat) : l.eraseIdx i = l.take i ++ l.drop (i + 1) := List.eraseIdx_eq_take_drop_succ ..

/-- without: a new row of all but one. -/
theorem f55 {v : V} {rows : List (List V)} {F : Nat → Prop} {md : Md} {i : Nat} (hs : SlV H md 7 v rows F) (hi : i < rows.length) (hmax : rows.length < 2 ^ 20) :
    ACalls Try.prog W0 55 [v, .i .i64 i] H fun e H' => ∃ v', e = .ret v' ∧ SlV H' .rw 7 v' (rows.eraseIdx i) (Up NoId H H') ∧ Grows H H' := by
  refine acalls_by k55 (by simp) ?_
  rcases hs with ⟨hnil, _⟩ | ⟨id, o, cap, cs, rfl, hF, hs⟩
  · subst hnil; simp at hi
  have hle := hs.le
  have f1 : (i : Int) ≤ cap := by omega
  have hw : IntKind.i64.wrap ((i : Int) + 1) = (i : Int) + 1 := wrap_i64 (by omega) (by omega)
  have f2 : 0 ≤ (i : Int) + 1 := by omega
  have f3 : (i : Int) + 1 ≤ rows.length := by omega
  have f4 : ((i : Int) + 1).toNat = i + 1 := by omega
  have f5 : (i : Int) + 1 ≤ cap := by omega
  simp -dsimp [f1, hw, f2, f3, f4, f5]
  have h1 : SlV H md 7 (.sl 7 (some (id, o)) i cap) (rows.take i) F := .inr ⟨id, o, cap, cs, by simp; omega, hF, hs.take i⟩
  refine (app_nil (ys := rows.take i) (newCells_of h1) (fun r hr => hs.each r (List.mem_of_mem_take hr)) (by simp <;> omega) (by simp <;> omega)).mono ?_
  rintro v1 H1 ⟨hs1, g1, hful⟩
  have h2 : SlV H1 md 7 (.sl 7 (some (id, o + (i + 1) * 7)) (rows.length - (i + 1)) (cap - (i + 1))) (rows.drop (i + 1)) F :=
    .inr ⟨id, _, _, cs, by simp, hF, (hs.keep (F := NoId) g1 (fun h => h)).drop (by omega)⟩
  obtain ⟨e1, a1, c1, hv1⟩ := hs1.len
  simp -dsimp
  refine (app_rows (F := Up NoId H H1) (ys := rows.drop (i + 1)) hs1 (newCells_of h2) (fun r hr => hs.each r (List.mem_of_mem_drop hr)) (by simp <;> omega) (by simp <;> omega) (fun e a n cap he => by
    right; subst hv1; have h := hful _ _ _ _ rfl; cases he; exact h)).mono ?_
  rintro v2 H2 ⟨hs2, k2⟩
  simp -dsimp
  rw [← eraseIdx_rows] at hs2
  refine ⟨hs2.mono fun j hj => ?_, g1.then k2 fun j hj h => ?_⟩
  · have := g1.next
    have := k2.next
    rcases hj with (h | h) | h
    · exact h.elim
    · exact .inr ⟨h.1, by omega⟩
    · exact .inr ⟨by omega, h.2⟩
  · rcases h with h | h
    · exact h
    · omega
end Go.Proofs.Ytmdmabedfleacaa
