/- A part of the proof: contracts of functions, over the abstract machine. -/
import Derived.Test.YtmdmabedfleacaaTp2
set_option linter.unusedVariables false
set_option linter.unusedSimpArgs false
set_option linter.all false
namespace Go.Proofs.Ytmdmabedfleacaa
open Ram Go

variable {W0 : World} {H : AH}

/-- T.Find. -/
theorem f37 (x : Tup) {w : Nat} {most ticks now last : Int} {ds : List Fd} {F : Nat → Prop} (hw : RT H w most ticks now last ds F) (hl : ds.length < 1000) : ACalls Try.prog W0 37 [.p (some (w, 0)), .agg x.c] H fun e H' =>
    e = .ret (.tup [.i .i64 ((foundD ds x).elim 0 (·.id)), .i .i64 ((foundD ds x).elim 0 fun y => sameDir x y.t), .b (foundD ds x).isSome]) ∧ RT H' w most ticks now last (touchD ds x now) (Up F H H') ∧ Keeps F H H' := by
  have hw0 := hw
  obtain ⟨v, Fw, hF, gw, hs⟩ := hw
  have lw := hF _ Fw
  refine acalls_in k37 (by simp) ?_
  simp -dsimp
  refine awp_round (fun m env H1 => ∃ i : Nat, i ≤ ds.length ∧ m = ds.length - i ∧ Grows H H1 ∧ env.get 0 = some (.p (some (w, 0))) ∧ env.get 3 = some (.p (some (H.next, 0))) ∧ env.get 7 = some (.i .i64 i) ∧ H1.get H.next = some (.cells .rw x.c) ∧ H.next < H1.next ∧ ∀ j r, j < i → ds[j]? = some r → same x r.t = false)
    ds.length ⟨0, by simp, by simp, Keeps.alloc' Keeps.refl, by simp, by simp, by simp, by simp, by simp <;> omega, by simp⟩ ?_
  rintro m env H1 ⟨i, hi, rfl, hgr, e0, e3, e7, gx, hn, hno⟩
  have gw1 := Grows.at hgr lw gw
  obtain ⟨e', a', cap', hv⟩ := hs.len
  rw [List.length_map] at hv
  by_cases hlt : i < ds.length
  · have hr : ds[i]? = some ds[i] := List.getElem?_eq_getElem hlt
    have hwi : IntKind.i64.wrap ((i : Int) + 1) = (i : Int) + 1 := wrap_i64 (by omega) (by omega)
    have hs0 := hs
    rcases hs with ⟨hnil, _⟩ | ⟨id, o, cap, cs, rfl, hF', hs⟩
    · simp only [List.map_eq_nil_iff] at hnil; subst hnil; simp at hlt
    rw [List.length_map] at gw gw1 hs0
    have hs1 := hs.keep hgr fun h => h
    have hrow := hs1.row_part (i := i) (r := fRow ds[i]) (by simp [hr]) (off := 0) (n := 5) (by omega)
    simp [fRow] at hrow
    simp -dsimp [e0, e3, e7, gw1, hlt, ldCells_of gx, hrow]
    refine (f64 x ds[i].t).next ?_
    rintro H2 g2
    have g12 := hgr.trans g2
    have n12 := g12.next
    have gw2 := Grows.at g12 lw gw
    have gx2 := Grows.at g2 hn gx
    cases hsm : same x ds[i].t
    · simp -dsimp [e0, e3, e7, hwi]
      refine hold_mk ⟨ds.length - (i + 1), by omega, i + 1, by omega, rfl, g12, by simp [e0], by simp [e3], by simp, gx2, Nat.lt_of_lt_of_le hn g2.next, fun j r hj hr' => ?_⟩
      by_cases e : j = i
      · subst e; rw [hr] at hr'; simp only [Option.some.injEq] at hr'; subst hr'; exact hsm
      · exact hno j r (by omega) hr'
    · have hfi : ds.findIdx? (fun y => same x y.t) = some i := findIdx_at hr hsm hno
      have hfd : foundD ds x = some ds[i] := by
        unfold foundD
        rw [List.find?_eq_some_iff_append]
        refine ⟨hsm, ds.take i, ds.drop (i + 1), by rw [List.getElem_cons_drop, List.take_append_drop], fun y hy => ?_⟩
        obtain ⟨j, hj, rfl⟩ := List.mem_take_iff_getElem.1 hy
        simp [hno j _ (by omega) (List.getElem?_eq_getElem (by omega))]
      have htd : touchD ds x now = ds.eraseIdx i ++ [⟨ds[i].t, ds[i].id, now⟩] := by
        unfold touchD; rw [hfi]; simp [hr]
      have hs2 := hs.keep g12 fun h => h
      have hrow2 := hs2.row (i := i) (r := fRow ds[i]) (by simp [hr])
      simp only [fRow] at hrow2
      have nw2 : ¬ w = H2.next := by omega
      simp -dsimp [e0, e3, e7, gw2, hlt, hrow2, nw2]
      obtain ⟨H3, hH3⟩ : ∃ H3, H3 = (H2.alloc (.cells .rw (fRow ⟨ds[i].t, ds[i].id, now⟩))).bump 13 := ⟨_, rfl⟩
      have hsh : (H2.alloc (.cells .rw [.i .i64 ds[i].t.p, .i .u32 ds[i].t.s, .i .u32 ds[i].t.d, .i .i64 ds[i].t.sp, .i .i64 ds[i].t.dp, .i .i64 ds[i].id, .i .i64 now])).bump 13 = H3 := by rw [hH3]; rfl
      rw [hsh]
      have g23 : Grows H2 H3 := ⟨by rw [hH3]; simp <;> omega, fun j hj _ => by rw [hH3, bump_get, AH.get_alloc, if_neg (by omega)]⟩
      have gf3 : H3.get H2.next = some (.cells .rw (fRow ⟨ds[i].t, ds[i].id, now⟩)) := by rw [hH3, bump_get, AH.get_alloc, if_pos rfl]
      have n3 : H3.next = H2.next + 1 + 13 := by rw [hH3]; simp
      have hs3 := (hs0.keep g12 fun _ _ h => h).keep g23 fun _ _ h => h
      refine (f55 hs3 (by simpa using hlt) (by simp <;> omega)).some ?_
      rintro v4 H4 ⟨hs4, g4⟩
      have gf4 := Grows.at g4 (i := H2.next) (by omega) gf3
      simp only [fRow] at gf4
      have n4 := g4.next
      simp -dsimp [e0, e3, e7, ldCells_of gf4]
      obtain ⟨q, hq⟩ : ∃ q, q = H2.next + 1 + 8 := ⟨_, rfl⟩
      rw [← hq]
      have k4 : Keeps (fun j => j = q) H4 (H4.set q (.cells .rw (fRow ⟨ds[i].t, ds[i].id, now⟩))) := Keeps.set fun _ => rfl
      have hs5 := hs4.keep k4 fun j hj e => by
        rcases hj with h | h
        · exact h
        · omega
      refine (app_row hs5 (r := fRow ⟨ds[i].t, ds[i].id, now⟩) (by simp [fRow]) (by simp [fRow]) (by simp [List.length_eraseIdx]; split <;> omega) (by simp [List.length_eraseIdx]; split <;> omega)).mono ?_
      rintro v6 H6 ⟨hs6, k6⟩
      have n6 := k6.next
      simp only [AH.next_set'] at n6
      have gH4 : Grows H H4 := (g12.trans g23).trans g4
      have gw4 := Grows.at gH4 lw gw
      have gw6 := k6.at (i := w) (by simp <;> omega) (fun h => by
        rcases h with h | h
        · exact h
        · omega) (by rw [AH.get_set, if_neg (by omega)]; exact gw4)
      have gf6 := k6.at (i := H2.next) (by simp <;> omega) (fun h => by
        rcases h with h | h
        · exact h
        · omega) (by rw [AH.get_set, if_neg (by omega)]; exact gf4)
      have hrows : (ds.map fRow).eraseIdx i ++ [fRow ⟨ds[i].t, ds[i].id, now⟩] = (ds.eraseIdx i ++ [Fd.mk ds[i].t ds[i].id now]).map fRow := by rw [List.map_append, map_eraseIdx]; rfl
      rw [hrows] at hs6
      obtain ⟨e9, a9, c9, hv9⟩ := hs6.len
      obtain ⟨n9, hn9⟩ : ∃ n, n = ((ds.eraseIdx i ++ [Fd.mk ds[i].t ds[i].id now]).map fRow).length := ⟨_, rfl⟩
      rw [← hn9] at hv9
      subst hv9
      have hk6 : Keeps F H H6 := (Keeps.set_new (Grows.keeps gH4) (by omega)).then k6 fun j hj h => by
        rcases h with h | h
        · exact h.elim
        · omega
      have wn : ¬ H2.next = w := by omega
      simp -dsimp [e0, e3, e7, gw6, gf6, wn]
      rw [hfd, htd]
      refine fin_mk ⟨rfl, ⟨_, .inl Fw, ?_, by rw [AH.get_set, if_pos rfl], ?_⟩, Keeps.set_own hk6 Fw⟩
      · rintro j (h | h)
        · have := hF j h; simp <;> omega
        · exact h.2
      · exact (hs6.keep (G := fun j => j = w) (Keeps.set fun _ => rfl) fun j hj e => by
          subst e
          rcases hj with (h | h) | h
          · exact h
          · omega
          · simp at h; omega).mono fun j hj => by
          rcases hj with (h | h) | h
          · exact h.elim
          · exact ⟨.inr ⟨by omega, by simp <;> omega⟩, by omega⟩
          · simp at h; exact ⟨.inr ⟨by omega, by simp <;> omega⟩, by omega⟩
  · have hfi : ds.findIdx? (fun y => same x y.t) = none := by
      rw [List.findIdx?_eq_none_iff]
      intro y hy
      obtain ⟨j, hj, rfl⟩ := List.getElem_of_mem hy
      exact hno j _ (by omega) (List.getElem?_eq_getElem hj)
    have hfd : foundD ds x = none := by
      unfold foundD
      rw [List.find?_eq_none]
      intro y hy
      obtain ⟨j, hj, rfl⟩ := List.getElem_of_mem hy
      simp [hno j _ (by omega) (List.getElem?_eq_getElem hj)]
    have htd : touchD ds x now = ds := by unfold touchD; rw [hfi]
    rw [hfd, htd]
    simp -dsimp [e0, e3, e7, gw1, hv, hlt]
    obtain ⟨v', Fw', hF', gw', hs'⟩ := hw0.grow hgr
    refine fin_mk ⟨rfl, ⟨v', .inl Fw', fun j hj => ?_, gw', hs'.mono fun j h => ⟨.inl h.1, h.2⟩⟩, Grows.keeps hgr⟩
    rcases hj with h | h
    · exact hF' j h
    · exact h.2
end Go.Proofs.Ytmdmabedfleacaa
