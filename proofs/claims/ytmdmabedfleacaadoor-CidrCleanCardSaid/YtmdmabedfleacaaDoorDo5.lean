/- A part of the proof: contracts of functions, over the abstract machine. -/
import Derived.Test.YtmdmabedfleacaaDoorDo4
set_option linter.unusedVariables false
set_option linter.unusedSimpArgs false
set_option linter.all false
namespace Go.Proofs.YtmdmabedfleacaaDoor
open Ram Go

variable {W0 : World} {H : AH}

set_option maxRecDepth 8000 in
/-- rampartref21.Text. -/
theorem f20 (t : Tup) (ok : t.ok) (hp0 : -9223372036854775807 ≤ t.p) (ha0 : -9223372036854775807 ≤ t.sp) (hb0 : -9223372036854775807 ≤ t.dp) : ACalls Tryd.prog W0 20 [.agg t.c] H fun e H' => e = .ret (.s (ttext t)) ∧ Grows H H' := by
  have hp := ptext_len ok.p0 ok.p1
  have hs := dotted_len (a := t.s)
  have hd := dotted_len (a := t.d)
  have ha := Lib.itoa_length_le t.sp ok.a0 ok.a1
  have hb := Lib.itoa_length_le t.dp ok.b0 ok.b1
  refine acalls_in k20 (by simp) ?_
  have hk : Grows H (H.alloc (.cells .rw t.c)) := Keeps.alloc' Keeps.refl
  rw [awp_assoc, awp_assoc]
  refine awp_cut (fun env H2 => env.get 1 = some (.p (some (H.next, 0))) ∧ env.get 3 = some (.s (ptext t.p)) ∧ Grows (H.alloc (.cells .rw t.c)) H2) ?_ ?_
  · simp -dsimp
    refine (f36 hp0 ok.p1).next ?_
    rintro _ rfl
    by_cases p1 : t.p = 1
    · have p1' := eq_true p1
      simp -dsimp [p1']
      exact hold_mk ⟨by simp, by simp [ptext, p1], Keeps.refl⟩
    · by_cases p6 : t.p = 6
      · have p6' := eq_true p6
        simp -dsimp [p1, p6']
        exact hold_mk ⟨by simp, by simp [ptext, p6], Keeps.refl⟩
      · by_cases p17 : t.p = 17
        · have p17' := eq_true p17
          simp -dsimp [p1, p6, p17']
          exact hold_mk ⟨by simp, by simp [ptext, p17], Keeps.refl⟩
        · simp -dsimp [p1, p6, p17]
          exact hold_mk ⟨by simp, by simp [ptext, p1, p6, p17], Keeps.refl⟩
  · rintro env H2 ⟨e1, e3, g2⟩
    obtain ⟨pt, hpt⟩ : ∃ l, l = ptext t.p := ⟨_, rfl⟩
    rw [← hpt] at e3 hp
    have gx : H2.get H.next = some (.cells .rw t.c) := Grows.at g2 (by simp <;> omega) (by simp)
    have lx : H.next < H2.next := by have := g2.next; simp at this; omega
    simp only [Tup.c] at gx
    simp -dsimp [e1, e3, gx]
    rw [add_s (by simp; omega)]
    simp -dsimp [e1, e3, gx]
    refine (f33 ok.s0 ok.s1).next ?_
    rintro _ rfl
    simp -dsimp [e1, e3, gx]
    rw [add_s (by simp; omega)]
    simp -dsimp [e1, e3, gx]
    rw [add_s (by simp; omega)]
    simp -dsimp [e1, e3, gx]
    refine (f36 ha0 ok.a1).next ?_
    rintro _ rfl
    simp -dsimp [e1, e3, gx]
    rw [add_s (by simp; omega)]
    simp -dsimp [e1, e3, gx]
    rw [add_s (by simp; omega)]
    simp -dsimp [e1, e3, gx]
    refine (f33 ok.d0 ok.d1).next ?_
    rintro _ rfl
    simp -dsimp [e1, e3, gx]
    rw [add_s (by simp; omega)]
    simp -dsimp [e1, e3, gx]
    rw [add_s (by simp; omega)]
    simp -dsimp [e1, e3, gx]
    refine (f36 hb0 ok.b1).next ?_
    rintro _ rfl
    simp -dsimp [e1, e3, gx]
    rw [add_s (by simp; omega)]
    simp -dsimp [e1, e3, gx]
    refine fin_mk ⟨by simp [ttext, hpt], hk.trans g2⟩

theorem dd0 : Lib.decDigits 0 = [48] := by rw [dec_small (by omega)]; rfl
theorem dd1 : Lib.decDigits 1 = [49] := by rw [dec_small (by omega)]; rfl
theorem dd2 : Lib.decDigits 2 = [50] := by rw [dec_small (by omega)]; rfl
theorem dd5 : Lib.decDigits 5 = [53] := by rw [dec_small (by omega)]; rfl
theorem dd8 : Lib.decDigits 8 = [56] := by rw [dec_small (by omega)]; rfl
theorem dd10 : Lib.decDigits 10 = [49, 48] := by rw [dec_big (by omega), dec_small (by omega)]; rfl
theorem dd80 : Lib.decDigits 80 = [56, 48] := by rw [dec_big (by omega), dec_small (by omega)]; rfl

/-- awake. -/
theorem f15 (ht : Tab W0) : ACalls Tryd.prog W0 15 [] H fun e H' => e = .ret (.b true) ∧ Grows H H' := by
  refine acalls_in k15 (by simp) ?_
  have h := f14 (W0 := W0) (H := H) ht ⟨6, 167772161, 167772162, 5, 80⟩ ⟨by simp, by simp, by simp, by simp, by simp, by simp, by simp, by simp, by simp, by simp⟩
  have ht' : ttext ⟨6, 167772161, 167772162, 5, 80⟩ = [116, 99, 112, 32, 49, 48, 46, 48, 46, 48, 46, 49, 58, 53, 62, 49, 48, 46, 48, 46, 48, 46, 50, 58, 56, 48] := by
    simp [ttext, ptext, dotted, octs, Lib.join, List.intercalate, List.intersperse, itoa_pos, dd0, dd1, dd2, dd5, dd10, dd80]
  rw [ht'] at h
  simp only [Tup.c] at h
  simp -dsimp
  refine h.next ?_
  rintro H2 g2
  simp -dsimp [binS]
  exact fin_mk ⟨rfl, g2⟩
end Go.Proofs.YtmdmabedfleacaaDoor
