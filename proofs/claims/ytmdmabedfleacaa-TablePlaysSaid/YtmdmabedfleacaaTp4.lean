/- A part of the proof: contracts of functions, over the abstract machine. -/
import Derived.Test.YtmdmabedfleacaaTp3
set_option linter.unusedVariables false
set_option linter.unusedSimpArgs false
set_option linter.all false
namespace Go.Proofs.Ytmdmabedfleacaa
open Ram Go

variable {W0 : World} {H : AH}

theorem found_touch {ds : List Fd} {x : Tup} {now : Int} (h : foundD ds x = none) : touchD ds x now = ds := by
  unfold foundD at h
  rw [List.find?_eq_none] at h
  have : ds.findIdx? (fun y => same x y.t) = none := by
    rw [List.findIdx?_eq_none_iff]
    intro y hy
    have := h y hy
    simpa using this
  unfold touchD; rw [this]

/-- T.Put. -/
theorem f42 (x : Tup) {w : Nat} {most ticks now last : Int} {ds : List Fd} {F : Nat → Prop} (hw : RT H w most ticks now last ds F) (hl : ds.length < 1000) (hlast : 0 ≤ last ∧ last < 4611686018427387904) (hm1 : 1 ≤ most) : ACalls Try.prog W0 42 [.p (some (w, 0)), .agg x.c] H fun e H' =>
    e = .ret (.tup [.i .i64 ((foundD ds x).elim (last + 1) (·.id)), .i .i64 ((foundD ds x).elim (if most ≤ ds.length then (ds.head?.elim 0 (·.id)) else 0) fun _ => 0)]) ∧
      RT H' w most ticks now ((foundD ds x).elim (last + 1) fun _ => last) (putD ds most now last x) (Up F H H') ∧ Keeps F H H' := by
  have hF : ∀ i, F i → i < H.next := by obtain ⟨_, _, hF, _⟩ := hw; exact hF
  have Fw : F w := by obtain ⟨_, Fw, _⟩ := hw; exact Fw
  have lw := hF _ Fw
  refine acalls_in k42 (by simp) ?_
  have hk1 : Grows H (H.alloc (.cells .rw x.c)) := Keeps.alloc' Keeps.refl
  rw [awp_assoc, awp_assoc, awp_assoc]
  refine awp_cut (fun env H2 => env.get 0 = some (.p (some (w, 0))) ∧ env.get 3 = some (.p (some (H.next, 0))) ∧ env.get 9 = some (.i .i64 (if most ≤ (ds.length : Int) then (ds.head?.elim 0 (·.id)) else 0)) ∧ H2.get H.next = some (.cells .rw x.c) ∧ H.next < H2.next ∧ foundD ds x = none ∧
    Keeps F H H2 ∧ ∃ v2, H2.get w = some (.cells .rw [.i .i64 most, .i .i64 ticks, .i .i64 now, .i .i64 last, v2]) ∧ SlV H2 .rw 7 v2 ((roomD ds most).map fRow) (fun i => Up F H H2 i ∧ i ≠ w)) ?_ ?_
  · simp -dsimp
    refine (f37 x (hw.grow hk1) hl).next ?_
    rintro H2 ⟨h2, k2⟩
    have gx : H2.get H.next = some (.cells .rw x.c) := k2.at (by simp <;> omega) (fun h => by have := hF _ h; omega) (by simp)
    have lx : H.next < H2.next := Nat.lt_of_lt_of_le (by simp <;> omega) k2.next
    have k02 : Keeps F H H2 := Keeps.trans (Grows.keeps hk1) k2
    have hUp : ∀ i, Up F (H.alloc (.cells .rw x.c)) H2 i → Up F H H2 i := fun i h => by
      rcases h with h | h
      · exact .inl h
      · simp at h; exact .inr ⟨by omega, h.2⟩
    cases hfd : foundD ds x with
    | some y =>
      simp -dsimp
      refine fin_mk ⟨rfl, ?_, k02⟩
      unfold putD
      rw [hfd]
      obtain ⟨v', Fw', hF', gw', hs'⟩ := h2
      exact ⟨v', .inl Fw, fun i hi => by
        rcases hi with h | h
        · have := hF i h; omega
        · exact h.2, gw', hs'.mono fun i h => ⟨hUp i h.1, h.2⟩⟩
    | none =>
      rw [found_touch hfd] at h2
      obtain ⟨v', Fw', hF', gw', hs'⟩ := h2
      obtain ⟨e', a', cap', hv⟩ := hs'.len
      rw [List.length_map] at hv
      by_cases hmost : most ≤ (ds.length : Int)
      · have hpos : 0 < ds.length := by omega
        rcases hs' with ⟨hnil, _⟩ | ⟨id, o, cap, cs, hv', hFi, hs'⟩
        · simp only [List.map_eq_nil_iff] at hnil; subst hnil; simp at hpos
        rw [List.length_map] at hv'
        have hc := hs'.cell (i := 0) (j := 5) (r := fRow ds[0]) (by rw [List.getElem?_map, List.getElem?_eq_getElem hpos]; rfl) (by omega)
        simp [fRow] at hc
        subst hv'
        have hpos' : (0 : Int) < ds.length := by omega
        simp -dsimp [gw', hmost, hpos, hpos', hs'.get, hc]
        have hsV : SlV H2 .rw 7 (.sl 7 (some (id, o)) ds.length cap) (ds.map fRow) (fun i => Up F (H.alloc (.cells .rw x.c)) H2 i ∧ i ≠ w) := .inr ⟨id, o, cap, cs, by simp, hFi, hs'⟩
        refine (f55 (i := 0) hsV (by simpa using hpos) (by simp <;> omega)).some ?_
        rintro v4 H4 ⟨hs4, g4⟩
        obtain ⟨e9, a9, c9, hv9⟩ := hs4.len
        obtain ⟨n9, hn9⟩ : ∃ n, n = ((ds.map fRow).eraseIdx 0).length := ⟨_, rfl⟩
        rw [← hn9] at hv9
        subst hv9
        have n4 := g4.next
        have gw4 := Grows.at g4 (by omega) gw'
        simp -dsimp [gw4]
        refine hold_mk ⟨by simp, by simp, ?_, ?_, by simp; omega, rfl, ?_, _, by rw [AH.get_set, if_pos rfl], ?_⟩
        · rw [if_pos hmost]
          cases ds with
          | nil => simp at hpos
          | cons y l => simp
        · rw [AH.get_set, if_neg (by omega)]; exact Grows.at g4 lx gx
        · exact Keeps.set_own (Keeps.trans k02 (Grows.keeps g4)) Fw
        · unfold roomD
          rw [if_pos hmost]
          have : (ds.drop 1).map fRow = (ds.map fRow).eraseIdx 0 := by cases ds <;> simp
          rw [this]
          exact (hs4.keep (G := fun j => j = w) (Keeps.set fun _ => rfl) fun j hj e => by
            subst e
            rcases hj with h | h
            · exact h
            · omega).mono fun j hj => by
            rcases hj with h | h
            · exact h.elim
            · exact ⟨.inr ⟨by omega, by simpa using h.2⟩, by omega⟩
      · simp -dsimp [gw', hv, hmost]
        rw [← hv]
        refine hold_mk ⟨by simp, by simp, by rw [if_neg hmost]; simp, gx, lx, rfl, k02, v', gw', ?_⟩
        unfold roomD
        rw [if_neg hmost]
        exact hs'.mono fun i h => ⟨hUp i h.1, h.2⟩
  · rintro env H2 ⟨e0, e3, e9, gx, lx, hfd, k2, v2, gw2, hs2⟩
    have n2 := k2.next
    have hwl : IntKind.i64.wrap (last + 1) = last + 1 := wrap_i64 (by omega) (by omega)
    obtain ⟨g, hg⟩ : ∃ g, g = (if most ≤ (ds.length : Int) then (ds.head?.elim 0 (·.id)) else 0) := ⟨_, rfl⟩
    rw [← hg] at e9
    have xw : ¬ H.next = w := by omega
    simp only [Tup.c] at gx
    simp -dsimp [e0, e3, e9, gw2, hwl, xw, ldCells_of gx]
    obtain ⟨H3, hH3⟩ : ∃ H3, H3 = (H2.set w (.cells .rw [.i .i64 most, .i .i64 ticks, .i .i64 now, .i .i64 (last + 1), v2])) := ⟨_, rfl⟩
    rw [← hH3]
    have gw3 : H3.get w = some (.cells .rw [.i .i64 most, .i .i64 ticks, .i .i64 now, .i .i64 (last + 1), v2]) := by rw [hH3, AH.get_set, if_pos rfl]
    have nn3 : H3.next = H2.next := by rw [hH3]; simp
    have hs3 : SlV H3 .rw 7 v2 ((roomD ds most).map fRow) (fun i => Up F H H2 i ∧ i ≠ w) := by rw [hH3]; exact hs2.keep (G := fun j => j = w) (Keeps.set fun _ => rfl) fun j h e => h.2 e
    have k3 : Keeps F H H3 := by rw [hH3]; exact Keeps.set_own k2 Fw
    obtain ⟨H4, hH4⟩ : ∃ H4, H4 = (H3.bump 20).set (H3.next + 15) (.cells .rw (fRow ⟨x, last + 1, now⟩)) := ⟨_, rfl⟩
    have hsh : (H3.bump 20).set (H2.next + 15) (.cells .rw [.i .i64 x.p, .i .u32 x.s, .i .u32 x.d, .i .i64 x.sp, .i .i64 x.dp, .i .i64 (last + 1), .i .i64 now]) = H4 := by rw [hH4, nn3]; rfl
    rw [hsh]
    have g34 : Grows H3 H4 := ⟨by rw [hH4]; simp, fun j hj _ => by rw [hH4, AH.get_set, if_neg (by omega), bump_get]⟩
    have n4 := g34.next
    have hy : newCells H4 7 (.sl 7 (some (H2.next + 15, 0)) 1 1) = some (1, fRow ⟨x, last + 1, now⟩) := by rw [hH4, nn3]; simp [fRow]
    have hrl : (roomD ds most).length ≤ ds.length := by unfold roomD; split <;> simp
    refine (app_row (hs3.keep g34 fun _ _ h => h) (r := fRow ⟨x, last + 1, now⟩) hy (by simp [fRow]) (by rw [List.length_map]; omega) (by rw [List.length_map]; omega)).mono ?_
    rintro v6 H6 ⟨hs6, k6⟩
    have n6 := k6.next
    have gw6 := k6.at (i := w) (by omega) (fun h => h.2 rfl) (Grows.at g34 (by omega) gw3)
    have hrows : (roomD ds most).map fRow ++ [fRow ⟨x, last + 1, now⟩] = (roomD ds most ++ [Fd.mk x (last + 1) now]).map fRow := by rw [List.map_append]; rfl
    rw [hrows] at hs6
    obtain ⟨e9', a9, c9, hv9⟩ := hs6.len
    obtain ⟨n9, hn9⟩ : ∃ n, n = ((roomD ds most ++ [Fd.mk x (last + 1) now]).map fRow).length := ⟨_, rfl⟩
    rw [← hn9] at hv9
    subst hv9
    have hk6 : Keeps F H H6 := (Keeps.trans k3 (Grows.keeps g34)).then k6 fun j hj h => by
      rcases h.1 with h | h
      · exact h
      · omega
    simp -dsimp [e0, e3, e9, gw6]
    rw [hfd, ← hg]
    unfold putD
    rw [hfd]
    refine fin_mk ⟨rfl, ⟨_, .inl Fw, ?_, by rw [AH.get_set, if_pos rfl]; rfl, ?_⟩, Keeps.set_own hk6 Fw⟩
    · rintro j (h | h)
      · have := hF j h; simp <;> omega
      · exact h.2
    · exact (hs6.keep (G := fun j => j = w) (Keeps.set fun _ => rfl) fun j hj e => by
        subst e
        rcases hj with h | h
        · exact h.2 rfl
        · omega).mono fun j hj => by
        rcases hj with ⟨h | h, hw⟩ | h
        · exact ⟨.inl h, hw⟩
        · exact ⟨.inr ⟨h.1, by simp <;> omega⟩, hw⟩
        · exact ⟨.inr ⟨by omega, by simpa using h.2⟩, by omega⟩
end Go.Proofs.Ytmdmabedfleacaa
