/- A part of the proof: contracts of functions, over the abstract machine. -/
import Derived.Test.YtmdmabedfleacaaTp4
set_option linter.unusedVariables false
set_option linter.unusedSimpArgs false
set_option linter.all false
namespace Go.Proofs.Ytmdmabedfleacaa
open Ram Go

variable {W0 : World} {H : AH}

def rmD (ds : List Fd) (n : Int) : List Fd := match ds.findIdx? fun x => decide (x.id = n) with
  | some i => ds.eraseIdx i
  | none => ds

/-- T.Remove. -/
theorem f38 (n : Int) {w : Nat} {most ticks now last : Int} {ds : List Fd} {F : Nat → Prop} (hw : RT H w most ticks now last ds F) (hl : ds.length < 1000) : ACalls Try.prog W0 38 [.p (some (w, 0)), .i .i64 n] H fun e H' =>
    e = .ret (.b (ds.any fun x => decide (x.id = n))) ∧ RT H' w most ticks now last (rmD ds n) (Up F H H') ∧ Keeps F H H' := by
  have hw0 := hw
  obtain ⟨v, Fw, hF, gw, hs⟩ := hw
  have lw := hF _ Fw
  refine acalls_in k38 (by simp) ?_
  simp -dsimp
  refine awp_round (fun m env H1 => ∃ i : Nat, i ≤ ds.length ∧ m = ds.length - i ∧ H = H1 ∧ env.get 0 = some (.p (some (w, 0))) ∧ env.get 1 = some (.i .i64 n) ∧ env.get 5 = some (.i .i64 i) ∧ ∀ j r, j < i → ds[j]? = some r → decide (r.id = n) = false)
    ds.length ⟨0, by simp, by simp, rfl, by simp, by simp, by simp, by simp⟩ ?_
  rintro m env _ ⟨i, hi, rfl, rfl, e0, e1, e5, hno⟩
  obtain ⟨e', a', cap', hv⟩ := hs.len
  rw [List.length_map] at hv
  by_cases hlt : i < ds.length
  · have hr : ds[i]? = some ds[i] := List.getElem?_eq_getElem hlt
    have hwi : IntKind.i64.wrap ((i : Int) + 1) = (i : Int) + 1 := wrap_i64 (by omega) (by omega)
    have hs0 := hs
    rcases hs with ⟨hnil, _⟩ | ⟨id, o, cap, cs, rfl, hF', hs⟩
    · simp only [List.map_eq_nil_iff] at hnil; subst hnil; simp at hlt
    rw [List.length_map] at gw hs0
    have hc := hs.cell (i := i) (j := 5) (r := fRow ds[i]) (by rw [List.getElem?_map, hr]; rfl) (by omega)
    simp [fRow] at hc
    by_cases heq : ds[i].id = n
    · have heq' := eq_true heq
      simp -dsimp [e0, e1, e5, gw, hlt, hs.get, hc, heq']
      refine (f55 hs0 (by simpa using hlt) (by simp <;> omega)).some ?_
      rintro v4 H4 ⟨hs4, g4⟩
      obtain ⟨e9, a9, c9, hv9⟩ := hs4.len
      obtain ⟨n9, hn9⟩ : ∃ n, n = ((ds.map fRow).eraseIdx i).length := ⟨_, rfl⟩
      rw [← hn9] at hv9
      subst hv9
      have n4 := g4.next
      have gw4 := Grows.at g4 lw gw
      simp -dsimp [e0, e1, e5, gw4]
      have hfi : ds.findIdx? (fun x => decide (x.id = n)) = some i := findIdx_at hr (by simp [heq]) hno
      have hany : (ds.any fun x => decide (x.id = n)) = true := by rw [List.any_eq_true]; exact ⟨ds[i], List.getElem_mem hlt, by simp [heq]⟩
      rw [hany]
      unfold rmD
      rw [hfi]
      refine fin_mk ⟨rfl, ⟨_, .inl Fw, ?_, by rw [AH.get_set, if_pos rfl], ?_⟩, Keeps.set_own (Grows.keeps g4) Fw⟩
      · rintro j (h | h)
        · have := hF j h; simp <;> omega
        · exact h.2
      · rw [map_eraseIdx]
        exact (hs4.keep (G := fun j => j = w) (Keeps.set fun _ => rfl) fun j hj e => by
          subst e
          rcases hj with h | h
          · exact h
          · omega).mono fun j hj => by
          rcases hj with h | h
          · exact h.elim
          · exact ⟨.inr ⟨by omega, by simpa using h.2⟩, by omega⟩
    · have heq' := eq_false heq
      simp -dsimp [e0, e1, e5, gw, hlt, hs.get, hc, heq', hwi]
      refine hold_mk ⟨ds.length - (i + 1), by omega, i + 1, by omega, rfl, rfl, by simp [e0], by simp [e1], by simp, fun j r hj hr' => ?_⟩
      by_cases e : j = i
      · subst e; rw [hr] at hr'; simp only [Option.some.injEq] at hr'; subst hr'; simp [heq]
      · exact hno j r (by omega) hr'
  · have hfi : ds.findIdx? (fun x => decide (x.id = n)) = none := by
      rw [List.findIdx?_eq_none_iff]
      intro y hy
      obtain ⟨j, hj, rfl⟩ := List.getElem_of_mem hy
      exact hno j _ (by omega) (List.getElem?_eq_getElem hj)
    have hany : (ds.any fun x => decide (x.id = n)) = false := by
      rw [List.any_eq_false]
      intro y hy
      obtain ⟨j, hj, rfl⟩ := List.getElem_of_mem hy
      have := hno j _ (by omega) (List.getElem?_eq_getElem hj)
      rw [this]; simp
    rw [hany]
    unfold rmD
    rw [hfi]
    simp -dsimp [e0, e1, e5, gw, hv, hlt]
    refine fin_mk ⟨rfl, ⟨v, .inl Fw, fun j hj => ?_, gw, hs.mono fun j h => ⟨.inl h.1, h.2⟩⟩, Keeps.refl⟩
    rcases hj with h | h
    · exact hF j h
    · exact h.2

/-- T.Flush. -/
theorem f41 {w : Nat} {most ticks now last : Int} {ds : List Fd} {F : Nat → Prop} (hw : RT H w most ticks now last ds F) (hl : ds.length < 1000) : ACalls Try.prog W0 41 [.p (some (w, 0))] H fun e H' =>
    ∃ v, e = .ret v ∧ SlV H' .rw 1 v ((sortI (ds.map (·.id))).map iRow) (Up NoId H H') ∧ RT H' w most ticks now last [] F ∧ Keeps F H H' := by
  obtain ⟨v, Fw, hF, gw, hs⟩ := hw
  have lw := hF _ Fw
  refine acalls_in k41 (by simp) ?_
  obtain ⟨e', a', cap', hv⟩ := hs.len
  rw [List.length_map] at hv
  simp -dsimp
  refine awp_round (fun m env H1 => ∃ i : Nat, i ≤ ds.length ∧ m = ds.length - i ∧ Grows H H1 ∧ env.get 0 = some (.p (some (w, 0))) ∧ env.get 4 = some (.i .i64 i) ∧
    ∃ v3, env.get 3 = some v3 ∧ SlV H1 .rw 1 v3 (((ds.map (·.id)).map iRow).take i) (Up NoId H H1)) ds.length ⟨0, by simp, by simp, Keeps.refl, by simp, by simp, _, by simp; rfl, .inl ⟨by simp, _, rfl⟩⟩ ?_
  rintro m env H1 ⟨i, hi, rfl, hgr, e0, e4, v3, e3, hs3⟩
  have gw1 := Grows.at hgr lw gw
  by_cases hlt : i < ds.length
  · rcases hs with ⟨hnil, _⟩ | ⟨id, o, cap, cs, rfl, hF', hs⟩
    · simp only [List.map_eq_nil_iff] at hnil; subst hnil; simp at hlt
    have hr : ds[i]? = some ds[i] := List.getElem?_eq_getElem hlt
    have hs1 := hs.keep hgr fun h => h
    have hc := hs1.cell (i := i) (j := 5) (r := fRow ds[i]) (by rw [List.getElem?_map, hr]; rfl) (by omega)
    simp [fRow] at hc
    have hwi : IntKind.i64.wrap ((i : Int) + 1) = (i : Int) + 1 := wrap_i64 (by omega) (by omega)
    simp -dsimp [e0, e3, e4, gw1, hlt, hs1.get, hc]
    have hk1 : Grows H1 (H1.alloc (.cells .rw (iRow ds[i].id))) := Keeps.alloc' Keeps.refl
    refine (app_row (F := Up NoId H H1) (hs3.keep hk1 fun _ _ h => h) (r := iRow ds[i].id) (by simp [iRow]) (by simp [iRow]) (by simp <;> omega) (by simp <;> omega)).mono ?_
    rintro v4 H3 ⟨hs4, hk4⟩
    have hn := hgr.next
    have hn4 := hk4.next
    simp at hn4
    have hgr3 : Grows H H3 := (Keeps.trans hgr hk1).then hk4 fun j hj h => by rcases h with h | h <;> omega
    simp -dsimp [e0, e4, hwi]
    refine hold_mk ⟨ds.length - (i + 1), by omega, i + 1, by omega, rfl, hgr3, by simp [e0], by simp, v4, by simp, ?_⟩
    have : ((ds.map (·.id)).map iRow).take i ++ [iRow ds[i].id] = ((ds.map (·.id)).map iRow).take (i + 1) := by
      rw [List.take_add_one, List.getElem?_map, List.getElem?_map, hr]; rfl
    rw [this] at hs4
    refine hs4.mono fun j hj => ?_
    rcases hj with (h | h) | h
    · exact h.elim
    · exact .inr ⟨h.1, by omega⟩
    · simp at h; exact .inr ⟨by omega, h.2⟩
  · rw [List.take_of_length_le (by simp <;> omega)] at hs3
    have n1 := hgr.next
    simp -dsimp [e0, e3, e4, gw1, hv, hlt]
    have hs4 : SlV (H1.set w (.cells .rw [.i .i64 most, .i .i64 ticks, .i .i64 now, .i .i64 last, .sl 0 none 0 0])) .rw 1 v3 ((ds.map (·.id)).map iRow) (Up NoId H H1) := hs3.keep (G := fun j => j = w) (Keeps.set fun _ => rfl) fun j hj e => by
      rcases hj with h | h
      · exact h
      · omega
    refine (f65 hs4 (by simpa using hl)).some ?_
    rintro v5 H5 ⟨hs5, g5⟩
    have n5 := g5.next
    simp only [AH.next_set'] at n5
    simp -dsimp
    refine fin_mk ⟨v5, rfl, hs5.mono fun j hj => ?_, ⟨_, Fw, fun j hj => by have := hF j hj; omega, Grows.at g5 (by simp <;> omega) (by rw [AH.get_set, if_pos rfl]), .inl ⟨rfl, _, rfl⟩⟩, Keeps.trans (Keeps.set_own (Grows.keeps hgr) Fw) (Grows.keeps g5)⟩
    rcases hj with h | h
    · exact h.elim
    · simp only [AH.next_set'] at h; exact .inr ⟨by omega, h.2⟩
end Go.Proofs.Ytmdmabedfleacaa
