/- A part of the proof: contracts of functions, over the abstract machine. -/
import Derived.Test.YtmdmabedfleacaaDoorDo3
set_option linter.unusedVariables false
set_option linter.unusedSimpArgs false
set_option linter.all false
namespace Go.Proofs.YtmdmabedfleacaaDoor
open Ram Go

variable {W0 : World} {H : AH}

theorem ptext_len {p : Int} (h0 : -9223372036854775808 ≤ p) (h1 : p ≤ 9223372036854775807) : (ptext p).length ≤ 21 := by
  unfold ptext
  have := Lib.itoa_length_le p h0 h1
  (repeat' split) <;> simp <;> omega

set_option maxRecDepth 8000 in
/-- tuple.Text. -/
theorem f14 (ht : Tab W0) (t : Tup) (ok : t.ok) : ACalls Tryd.prog W0 14 [.agg t.c] H fun e H' => e = .ret (.s (ttext t)) ∧ Grows H H' := by
  have hp := ptext_len ok.p0 ok.p1
  have hs := dotted_len (a := t.s)
  have hd := dotted_len (a := t.d)
  have ha := Lib.itoa_length_le t.sp ok.a0 ok.a1
  have hb := Lib.itoa_length_le t.dp ok.b0 ok.b1
  refine acalls_in k14 (by simp) ?_
  have hk : Grows H (H.alloc (.cells .rw t.c)) := Keeps.alloc' Keeps.refl
  rw [awp_assoc, awp_assoc]
  refine awp_cut (fun env H2 => env.get 1 = some (.p (some (H.next, 0))) ∧ env.get 3 = some (.s (ptext t.p)) ∧ Grows (H.alloc (.cells .rw t.c)) H2) ?_ ?_
  · simp -dsimp
    refine (f35 ht ok.p0 ok.p1).next ?_
    rintro _ rfl
    by_cases p1 : t.p = 1
    · have p1' := eq_true p1
      simp -dsimp [p1']
      exact hold_mk ⟨by simp, by simp [ptext, p1], Keeps.refl⟩
    · by_cases p6 : t.p = 6
      · have p6' := eq_true p6
        simp -dsimp [p1, p6']
        exact hold_mk ⟨by simp, by simp [ptext, p6], Keeps.refl⟩
      · by_cases p17 : t.p = 17
        · have p17' := eq_true p17
          simp -dsimp [p1, p6, p17']
          exact hold_mk ⟨by simp, by simp [ptext, p17], Keeps.refl⟩
        · simp -dsimp [p1, p6, p17]
          exact hold_mk ⟨by simp, by simp [ptext, p1, p6, p17], Keeps.refl⟩
  · rintro env H2 ⟨e1, e3, g2⟩
    obtain ⟨pt, hpt⟩ : ∃ l, l = ptext t.p := ⟨_, rfl⟩
    rw [← hpt] at e3 hp
    have gx : H2.get H.next = some (.cells .rw t.c) := Grows.at g2 (by simp <;> omega) (by simp)
    have lx : H.next < H2.next := by have := g2.next; simp at this; omega
    simp only [Tup.c] at gx
    simp -dsimp [e1, e3, gx]
    rw [add_s (by simp; omega)]
    simp -dsimp [e1, e3, gx]
    refine (f32 ht ok.s0 ok.s1).next ?_
    rintro H3 g3
    have gx3 := Grows.at g3 lx gx
    have n3 := g3.next
    simp -dsimp [e1, e3, gx3]
    rw [add_s (by simp; omega)]
    simp -dsimp [e1, e3, gx3]
    rw [add_s (by simp; omega)]
    simp -dsimp [e1, e3, gx3]
    refine (f35 ht ok.a0 ok.a1).next ?_
    rintro _ rfl
    simp -dsimp [e1, e3, gx3]
    rw [add_s (by simp; omega)]
    simp -dsimp [e1, e3, gx3]
    rw [add_s (by simp; omega)]
    simp -dsimp [e1, e3, gx3]
    refine (f32 ht ok.d0 ok.d1).next ?_
    rintro H4 g4
    have gx4 := Grows.at g4 (by omega) gx3
    simp -dsimp [e1, e3, gx4]
    rw [add_s (by simp; omega)]
    simp -dsimp [e1, e3, gx4]
    rw [add_s (by simp; omega)]
    simp -dsimp [e1, e3, gx4]
    refine (f35 ht ok.b0 ok.b1).next ?_
    rintro _ rfl
    simp -dsimp [e1, e3, gx4]
    rw [add_s (by simp; omega)]
    simp -dsimp [e1, e3, gx4]
    refine fin_mk ⟨by simp [ttext, hpt], ((hk.trans g2).trans g3).trans g4⟩
end Go.Proofs.YtmdmabedfleacaaDoor
