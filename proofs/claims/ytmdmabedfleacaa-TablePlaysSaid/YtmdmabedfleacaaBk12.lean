/- A part of the proof: contracts of functions, over the abstract machine. -/
import Derived.Test.YtmdmabedfleacaaBk11
set_option linter.unusedVariables false
set_option linter.unusedSimpArgs false
set_option linter.all false
namespace Go.Proofs.Ytmdmabedfleacaa
open Ram Go

variable {W0 : World} {H : AH}

theorem map_eraseIdx {α β : Type} (f : α → β) (l : List α) (i : Nat) : (l.eraseIdx i).map f = (l.map f).eraseIdx i := by
  rw [List.eraseIdx_eq_take_drop_succ, List.eraseIdx_eq_take_drop_succ]; simp

/-- B.Add. -/
theorem f26 (t : Tup) {w : Nat} {ticks now : Int} {l : List Blk} {F : Nat → Prop} (hw : RRep H w ticks now l F) (hl : l.length ≤ 64) : ACalls Try.prog W0 26 [.p (some (w, 0)), .agg t.c] H fun e H' => e = .ret (.tup []) ∧ RRep H' w ticks now (addB l now t) (Up F H H') ∧ Keeps F H H' := by
  have hw0 := hw
  obtain ⟨v, Fw, hF, gw, hs⟩ := hw
  have lw := hF _ Fw
  have nw : ¬ w = H.next := by omega
  refine acalls_by k26 (by simp) ?_
  rw [awp_assoc]
  rw [awp_assoc]
  refine awp_cut (fun env H' => env.get 0 = some (.p (some (w, 0))) ∧ ∃ fr, env.get 4 = some (.p (some (fr, 0))) ∧ ∃ l' tx v', l'.length ≤ 64 ∧
    addB l now t = cut64 (l' ++ [Blk.mk tx now]) ∧
    H'.get fr = some (.cells .rw (zrow ⟨tx, now⟩)) ∧ H'.get w = some (.cells .rw [.i .i64 ticks, .i .i64 now, v']) ∧
    SlV H' .rw 7 v' (l'.map zrow) (fun i => Up F H H' i ∧ i ≠ w) ∧ Keeps F H H') ?_ ?_
  · simp -dsimp [gw, nw]
    have hk1 : Grows H (((H.alloc (.cells .rw t.c)).bump 8).set (H.next + 1 + 6) (.cells .rw (zrow ⟨t, now⟩))) :=
      ⟨by simp <;> omega, fun i hi _ => by rw [AH.get_set, if_neg (by omega), bump_get, AH.get_alloc, if_neg (by omega)]⟩
    refine (f54 t (hw0.grow hk1) (by omega)).next ?_
    rintro H2 g2
    have g12 : Grows H H2 := Keeps.trans hk1 g2
    have gx : H2.get (H.next + 1 + 6) = some (.cells .rw (zrow ⟨t, now⟩)) := Grows.at g2 (by simp <;> omega) (by simp [zrow])
    have lx : H.next + 1 + 6 < H2.next := Nat.lt_of_lt_of_le (by simp <;> omega) g2.next
    have gw2 := Grows.at g12 lw gw
    cases hf : l.findIdx? (fun x => same t x.t) with
    | some i =>
      have hil := findIdx_lt hf
      rcases hs with ⟨hnil, _⟩ | ⟨id, o, cap, cs, rfl, hF', hs⟩
      · simp only [List.map_eq_nil_iff] at hnil; subst hnil; simp at hil
      have hs2 := hs.keep g12 fun h => h
      have hrow := hs2.row_part (i := i) (r := zrow l[i]) (by simp [hil]) (off := 0) (n := 5) (by omega)
      simp [zrow] at hrow gx
      have nxw : ¬ w = H.next + 1 + 6 := by omega
      simp -dsimp [gw2, hil, hrow, gx, nxw]
      have hk3 : Keeps (fun i => i = H.next + 1 + 6) H2 (H2.set (H.next + 1 + 6) (.cells .rw (zrow ⟨l[i].t, now⟩))) := Keeps.set fun _ => rfl
      have hs3 : SlV (H2.set (H.next + 1 + 6) (.cells .rw (zrow ⟨l[i].t, now⟩))) .rw 7 (.sl 7 (some (id, o)) l.length cap) (l.map zrow) (fun i => F i ∧ i ≠ w) :=
        .inr ⟨id, o, cap, cs, by simp, hF', hs2.keep hk3 (by have := hF _ hF'.1; omega)⟩
      refine (f55 hs3 (by simpa using hil) (by simp <;> omega)).some ?_
      rintro v4 H4 ⟨hs4, g4⟩
      obtain ⟨e5, a5, c5, rfl⟩ := hs4.len
      have gw4 : H4.get w = _ := Grows.at g4 (by simp; exact Nat.lt_of_lt_of_le lw g12.next) (by rw [AH.get_set, if_neg nxw]; exact gw2)
      have gx4 := Grows.at g4 (i := H.next + 1 + 6) (by simpa using lx) (by rw [AH.get_set, if_pos rfl])
      simp -dsimp [gw4]
      rw [← map_eraseIdx] at hs4
      have hn4 := g4.next
      simp only [AH.next_set'] at hn4
      refine hold_mk ⟨by simp, H.next + 1 + 6, by simp, l.eraseIdx i, l[i].t, _, by rw [List.length_eraseIdx]; split <;> omega, by simp [addB, hf, hil], ?_, by rw [AH.get_set, if_pos rfl], ?_, ?_⟩
      · rw [AH.get_set, if_neg (by omega)]; exact gx4
      · rw [← map_eraseIdx, List.length_map]
        simp only [← map_eraseIdx, List.length_map] at hs4
        exact (hs4.keep (G := fun i => i = w) (Keeps.set fun _ => rfl) fun j hj e => by
          rcases hj with h | h
          · exact h
          · simp at h; have := g12.next; omega).mono fun j hj => by
          rcases hj with h | h
          · exact h.elim
          · simp at h; have := g12.next; exact ⟨.inr ⟨by omega, by simpa using h.2⟩, by omega⟩
      · exact Keeps.set_own (Keeps.trans (Keeps.set_new (Grows.keeps g12) (by omega)) (Grows.keeps g4)) Fw
    | none =>
      simp -dsimp
      exact hold_mk ⟨by simp, H.next + 1 + 6, by simp, l, t, v, hl, by simp [addB, hf], gx, gw2, (hs.keep g12 fun _ _ h => h).mono fun j hj => ⟨.inl hj.1, hj.2⟩, Grows.keeps g12⟩
  · rintro env H2 ⟨e0, fr, e4, l', tx, v', hl', hadd, gx, gw2, hs2, hk2⟩
    simp only [zrow, refRow] at gx
    have lw2 := Nat.lt_of_lt_of_le lw hk2.next
    simp -dsimp [e0, e4, gw2, ldCells_of gx]
    have hk3 : Grows H2 ((H2.bump 11).set (H2.next + 6) (.cells .rw (zrow ⟨tx, now⟩))) := ⟨by simp, fun i hi _ => by rw [AH.get_set, if_neg (by omega), bump_get]⟩
    have hs3 := hs2.keep hk3 fun _ _ h => h
    refine (app_row hs3 (r := zrow ⟨tx, now⟩) (by simp [zrow]) (by simp [zrow]) (by simp <;> omega) (by simp <;> omega)).mono ?_
    rintro v3 H3 ⟨hs4, hk4⟩
    have hn0 := hk2.next
    have hn3 := hk4.next
    simp at hn3
    have gw3 := hk4.at (i := w) (by simp <;> omega) (fun h => h.2 rfl) (by rw [AH.get_set, if_neg (by omega), bump_get]; exact gw2)
    have hmap : l'.map zrow ++ [zrow ⟨tx, now⟩] = (l' ++ [Blk.mk tx now]).map zrow := by simp
    rw [hmap] at hs4
    have hs5 : SlV H3 .rw 7 v3 ((l' ++ [Blk.mk tx now]).map zrow) (fun i => Up F H H3 i ∧ i ≠ w) := hs4.mono fun j hj => by
      rcases hj with ⟨h | h, hw⟩ | h
      · exact ⟨.inl h, hw⟩
      · exact ⟨.inr ⟨h.1, by omega⟩, hw⟩
      · simp at h; exact ⟨.inr ⟨by omega, h.2⟩, by omega⟩
    have hkk : Keeps F H H3 := (Keeps.trans hk2 (Grows.keeps hk3)).then hk4 fun i hi h => by
      rcases h.1 with h | h
      · exact h
      · omega
    have fin : ∀ v4 m (H4 : AH), Keeps F H H4 → SlV H4 .rw 7 v4 (m.map zrow) (fun i => Up F H H4 i ∧ i ≠ w) → m = addB l now t →
        RRep (H4.set w (.cells .rw [.i .i64 ticks, .i .i64 now, v4])) w ticks now (addB l now t) (Up F H (H4.set w (.cells .rw [.i .i64 ticks, .i .i64 now, v4]))) ∧ Keeps F H (H4.set w (.cells .rw [.i .i64 ticks, .i .i64 now, v4])) := by
      rintro v4 m H4 g4 hsm rfl
      refine ⟨⟨v4, .inl Fw, ?_, by rw [AH.get_set, if_pos rfl], hsm.keep (G := fun i => i = w) (Keeps.set fun _ => rfl) fun i h e => h.2 e⟩, Keeps.set_own g4 Fw⟩
      rintro i (h | h)
      · have := hF _ h; have := g4.next; simp <;> omega
      · exact h.2
    obtain ⟨e', a', cap', rfl⟩ := hs5.len
    simp only [List.length_map, List.length_append, List.length_singleton] at hs5
    by_cases h64 : 64 < (l'.length : Int) + 1
    · have h65 : l'.length = 64 := by omega
      simp -dsimp [e0, gw3, h64, h65]
      rw [h65] at hs5
      have hs6 := hs5.keep (G := fun i => i = w) (H' := H3.set w (.cells .rw [.i .i64 ticks, .i .i64 now, .sl e' a' 65 cap'])) (Keeps.set fun _ => rfl) fun i h e => h.2 e
      refine (f55 (i := 0) hs6 (by simp <;> omega) (by simp <;> omega)).some ?_
      rintro v7 H7 ⟨hs7, g7⟩
      obtain ⟨e7, a7, c7, rfl⟩ := hs7.len
      have gw7 := Grows.at g7 (i := w) (by simp <;> omega) (by rw [AH.get_set, if_pos rfl])
      simp -dsimp [e0, gw7]
      have hk7 : Keeps F H H7 := Keeps.trans (Keeps.set_own hkk Fw) (Grows.keeps g7)
      have hn7 := g7.next
      simp only [AH.next_set'] at hn7
      rw [← map_eraseIdx, List.length_map] at hs7
      refine fin _ ((l' ++ [Blk.mk tx now]).eraseIdx 0) H7 hk7 ?_ ?_
      · have hl7 : ((l' ++ [Blk.mk tx now]).eraseIdx 0).length = l'.length := by simp [List.length_eraseIdx]
        rw [hl7] at hs7
        refine hs7.mono fun j hj => ?_
        rcases hj with h | h
        · exact h.elim
        · simp at h; exact ⟨.inr ⟨by omega, h.2⟩, by omega⟩
      · rw [hadd]; simp [cut64, h65]
    · simp -dsimp [e0, gw3, h64]
      refine fin _ (l' ++ [Blk.mk tx now]) H3 hkk hs5 ?_
      rw [hadd, cut64, if_neg (by simp <;> omega)]
end Go.Proofs.Ytmdmabedfleacaa
