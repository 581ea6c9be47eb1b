/- A part of the proof: contracts of functions, over the abstract machine. -/
import Derived.Test.YtmdmabedfleacaaTp5
set_option linter.unusedVariables false
set_option linter.unusedSimpArgs false
set_option linter.all false
namespace Go.Proofs.Ytmdmabedfleacaa
open Ram Go

variable {W0 : World} {H : AH}

/-- A list whose end is filtered. -/
def partG (p : Fd → Bool) (l : List Fd) (k : Nat) : List Fd := l.take k ++ (l.drop k).filter p

theorem partG_step {p : Fd → Bool} {l : List Fd} {k : Nat} (hk : k < l.length) : partG p l k = if p l[k] then partG p l (k + 1) else (partG p l (k + 1)).eraseIdx k := by
  unfold partG
  have h1 : l.drop k = l[k] :: l.drop (k + 1) := List.drop_eq_getElem_cons hk
  have h2 : l.take (k + 1) = l.take k ++ [l[k]] := by rw [List.take_add_one, List.getElem?_eq_getElem hk]; rfl
  have h3 : (l.take k).length = k := by simp; omega
  rw [h1, h2]
  cases h : p l[k]
  · simp only [Bool.false_eq_true, if_false, List.filter_cons_of_neg (p := p) (a := l[k]) (by simp [h])]
    rw [List.append_assoc, List.eraseIdx_append_of_length_le (by omega), h3, Nat.sub_self]
    rfl
  · simp only [if_true, List.filter_cons_of_pos h, List.append_assoc, List.singleton_append]

theorem partG_get {p : Fd → Bool} {l : List Fd} {k : Nat} (hk : k < l.length) : (partG p l (k + 1))[k]? = some l[k] := by
  unfold partG
  rw [List.getElem?_append_left (by simp; omega), List.getElem?_take, if_pos (by omega), List.getElem?_eq_getElem hk]
theorem partG_len {p : Fd → Bool} {l : List Fd} {k : Nat} (hk : k ≤ l.length) : k ≤ (partG p l k).length ∧ (partG p l k).length ≤ l.length := by
  unfold partG
  have := List.length_filter_le p (l.drop k)
  simp at this ⊢; omega

/-- The ids that went, the last one first. -/
def goneG (q : Fd → Bool) (l : List Fd) (k : Nat) : List Int := (((l.drop k).filter q).reverse).map (·.id)
theorem goneG_step {q : Fd → Bool} {l : List Fd} {k : Nat} (hk : k < l.length) : goneG q l k = goneG q l (k + 1) ++ (if q l[k] then [l[k].id] else []) := by
  unfold goneG
  rw [List.drop_eq_getElem_cons hk, List.filter_cons]
  cases q l[k] <;> simp
theorem goneG_len {q : Fd → Bool} {l : List Fd} {k : Nat} : (goneG q l k).length ≤ l.length := by
  unfold goneG
  have := List.length_filter_le q (l.drop k)
  simp at this ⊢; omega

/-- T.Tick. -/
theorem f40 (n : Int) {w : Nat} {most ticks now last : Int} {ds : List Fd} {F : Nat → Prop} (hw : RT H w most ticks now last ds F) (hl : ds.length < 1000) : ACalls Try.prog W0 40 [.p (some (w, 0)), .i .i64 n] H fun e H' => ∃ v, e = .ret v ∧
    SlV H' .rw 1 v ((sortI ((ds.filter (overT (IntKind.i64.wrap (now + stepOf n)) ticks)).map (·.id))).map iRow) (Up NoId H H') ∧
    RT H' w most ticks (IntKind.i64.wrap (now + stepOf n)) last (ds.filter fun x => !overT (IntKind.i64.wrap (now + stepOf n)) ticks x) (Up F H H') ∧ Keeps F H H' := by
  obtain ⟨v, Fw, hF, gw, hs⟩ := hw
  have lw := hF _ Fw
  refine acalls_in k40 (by simp) ?_
  obtain ⟨e', a', cap', hv⟩ := hs.len
  rw [List.length_map] at hv
  subst hv
  have hst : (if (if n < 0 then 0 else n) < 100000 then (if n < 0 then 0 else n) else 100000) = stepOf n := by unfold stepOf; (repeat' split) <;> omega
  have hst' : (if 100000 < (if n < 0 then 0 else n) then 100000 else (if n < 0 then 0 else n)) = stepOf n := by unfold stepOf; (repeat' split) <;> omega
  have hst2 : (if 100000 < (if 0 < n then n else 0) then 100000 else (if 0 < n then n else 0)) = stepOf n := by unfold stepOf; (repeat' split) <;> omega
  have hst3 : (if (if 0 < n then n else 0) < 100000 then (if 0 < n then n else 0) else 100000) = stepOf n := by unfold stepOf; (repeat' split) <;> omega
  obtain ⟨now', hnow⟩ : ∃ x, x = IntKind.i64.wrap (now + stepOf n) := ⟨_, rfl⟩
  rw [← hnow]
  have hwl : IntKind.i64.wrap ((ds.length : Int) - 1) = (ds.length : Int) - 1 := wrap_i64 (by omega) (by omega)
  simp -dsimp [gw, hst, hst', hst2, hst3, ← hnow, hwl]
  obtain ⟨q, hq⟩ : ∃ q : Fd → Bool, q = overT now' ticks := ⟨_, rfl⟩
  obtain ⟨p, hp⟩ : ∃ p : Fd → Bool, p = fun x => !overT now' ticks x := ⟨_, rfl⟩
  rw [← hp, ← hq]
  have hs1 : SlV (H.set w (.cells .rw [.i .i64 most, .i .i64 ticks, .i .i64 now', .i .i64 last, .sl e' a' ds.length cap'])) .rw 7 (.sl e' a' ds.length cap') (ds.map fRow) (fun i => F i ∧ i ≠ w) := hs.keep (G := fun i => i = w) (Keeps.set fun _ => rfl) fun i h e => h.2 e
  have hp0 : partG p ds ds.length = ds := by simp [partG]
  refine awp_round (fun m env H1 => ∃ (k : Nat) (v3 : V) (FT FG : Nat → Prop), k ≤ ds.length ∧ k = m ∧ env.get 0 = some (.p (some (w, 0))) ∧ env.get 5 = some v3 ∧ env.get 6 = some (.i .i64 ((k : Int) - 1)) ∧ Keeps F H H1 ∧
    RT H1 w most ticks now' last (partG p ds k) FT ∧ SlV H1 .rw 1 v3 ((goneG q ds k).map iRow) FG ∧ (∀ i, FT i → Up F H H1 i) ∧ (∀ i, FG i → Up NoId H H1 i) ∧ ∀ i, FT i → ¬ FG i) ds.length ⟨ds.length, _, F, NoId, by omega, by omega, by simp, by simp; rfl, by simp, Keeps.set fun _ => Fw,
      ⟨_, Fw, ?_, by rw [AH.get_set, if_pos rfl], by rw [hp0]; exact hs1⟩, .inl ⟨by simp [goneG], _, rfl⟩, fun i h => .inl h, fun i h => h.elim, fun i _ h => h⟩ ?_
  · intro i h
    have := hF _ h; simp <;> omega
  rintro m env H1 ⟨k, v3, FT, FG, hk, rfl, e0, e5, e6, hk1, hr1, hg1, hFT, hFG, hdj⟩
  have hr0 := hr1
  obtain ⟨v1, Fw1, hF1, gw1, hs2⟩ := hr1
  have hn1 := hk1.next
  by_cases hk0 : 0 < k
  · obtain ⟨j, rfl⟩ : ∃ j, k = j + 1 := ⟨k - 1, by omega⟩
    have hjl : j < ds.length := by omega
    have hpl := partG_len (p := p) (l := ds) (k := j + 1) hk
    have hget := partG_get (p := p) (l := ds) hjl
    obtain ⟨L, hL⟩ : ∃ L, L = partG p ds (j + 1) := ⟨_, rfl⟩
    rw [← hL] at hget hpl hs2 hr0
    rcases hs2 with ⟨hnil, _⟩ | ⟨id, o, cap, cs, rfl, hF', hs2⟩
    · simp only [List.map_eq_nil_iff] at hnil; rw [hnil] at hpl; simp at hpl
    rw [List.length_map] at gw1
    have hj1 : ((j + 1 : Nat) : Int) - 1 = j := by omega
    rw [hj1] at e6
    have hjL : (j : Int) < L.length := by omega
    have hc := hs2.cell (i := j) (j := 6) (r := fRow ds[j]) (by rw [List.getElem?_map, hget]; rfl) (by omega)
    have hc5 := hs2.cell (i := j) (j := 5) (r := fRow ds[j]) (by rw [List.getElem?_map, hget]; rfl) (by omega)
    simp [fRow] at hc hc5
    have hwj : IntKind.i64.wrap ((j : Int) - 1) = (j : Int) - 1 := wrap_i64 (by omega) (by omega)
    have hjL' : j < L.length := by omega
    have hst := partG_step (p := p) hjl
    have hgs := goneG_step (q := q) hjl
    have hgl := goneG_len (q := q) (l := ds) (k := j + 1)
    rw [← hL] at hst
    by_cases hov : ticks ≤ IntKind.i64.wrap (now' - ds[j].at_)
    · have hpj : p ds[j] = false := by rw [hp]; simp [overT, hov]
      have hqj : q ds[j] = true := by rw [hq]; simp [overT, hov]
      rw [hpj] at hst
      rw [hqj] at hgs
      simp only [Bool.false_eq_true, if_false] at hst
      simp only [if_true] at hgs
      simp -dsimp [e0, e5, e6, gw1, hs2.get, hc, hc5, hjL', hov]
      have hk2 : Grows H1 (H1.alloc (.cells .rw (iRow ds[j].id))) := Keeps.alloc' Keeps.refl
      refine (app_row (hg1.keep hk2 fun _ _ h => h) (r := iRow ds[j].id) (by simp [iRow]) (by simp [iRow]) (by rw [List.length_map]; omega) (by rw [List.length_map]; omega)).mono ?_
      rintro v4 H3 ⟨hg3, k3⟩
      have n3 := k3.next
      simp at n3
      have hr3 := (hr0.grow hk2).keep k3 fun i h h' => hdj i h h'
      obtain ⟨v5, Fw3, hF3, gw3, hs3⟩ := hr3
      obtain ⟨e7, a7, c7, hv5⟩ := hs3.len
      rw [List.length_map] at hv5
      simp -dsimp [e0, e5, e6, gw3]
      refine (f55 (i := j) hs3 (by simpa using hjL') (by simp <;> omega)).some ?_
      rintro v6 H4 ⟨hs4, g4⟩
      obtain ⟨e8, a8, c8, hv6⟩ := hs4.len
      obtain ⟨n9, hn9⟩ : ∃ n, n = ((L.map fRow).eraseIdx j).length := ⟨_, rfl⟩
      rw [← hn9] at hv6
      subst hv6
      have gw4 := Grows.at g4 (hF3 _ Fw1) gw3
      have hn4 := g4.next
      simp -dsimp [e0, e5, e6, gw4, hwj]
      have lw1 := hF1 _ Fw1
      have hkk : Keeps F H H4 := ((hk1.trans (Grows.keeps hk2)).then k3 fun i hi h => by
        rcases hFG i h with h' | h'
        · exact h'.elim
        · omega).trans (Grows.keeps g4)
      refine hold_mk ⟨j, by omega, j, v4, (fun i => i = w ∨ Up NoId H3 H4 i), Up FG (H1.alloc (.cells .rw (iRow ds[j].id))) H3, by omega, rfl, by simp [e0], by simp, by simp, Keeps.set_own hkk Fw, ⟨_, .inl rfl, ?_, by rw [AH.get_set, if_pos rfl], ?_⟩, ?_, ?_, ?_, ?_⟩
      · rintro i (h | h)
        · subst h; simp <;> omega
        · rcases h with h | h
          · exact h.elim
          · simpa using h.2
      · rw [hst, map_eraseIdx]
        exact (hs4.keep (G := fun i => i = w) (Keeps.set fun _ => rfl) fun i h e => by
          rcases h with h | h
          · exact h
          · omega).mono fun i h => by
          rcases h with h | h
          · exact h.elim
          · exact ⟨.inr (.inr h), by omega⟩
      · rw [hgs, List.map_append]
        refine (hg3.keep g4 fun _ _ h => h).keep (G := fun i => i = w) (Keeps.set fun _ => rfl) fun i h e => ?_
        subst e
        rcases h with h | h
        · exact hdj _ Fw1 h
        · simp at h; omega
      · rintro i (h | h)
        · subst h; exact .inl Fw
        · rcases h with h | h
          · exact h.elim
          · exact .inr ⟨by omega, by simpa using h.2⟩
      · rintro i (h | h)
        · rcases hFG i h with h' | h'
          · exact h'.elim
          · exact .inr ⟨by omega, by simp <;> omega⟩
        · simp at h; exact .inr ⟨by omega, by simp <;> omega⟩
      · rintro i (h | h) (h' | h')
        · subst h; exact hdj _ Fw1 h'
        · subst h; simp at h'; omega
        · rcases h with h | h
          · exact h
          · rcases hFG i h' with h2 | h2
            · exact h2
            · omega
        · rcases h with h | h
          · exact h
          · omega
    · have hpj : p ds[j] = true := by rw [hp]; simp [overT, hov] <;> omega
      have hqj : q ds[j] = false := by rw [hq]; simp [overT, hov] <;> omega
      rw [hpj] at hst
      rw [hqj] at hgs
      simp only [if_true] at hst
      simp only [Bool.false_eq_true, if_false, List.append_nil] at hgs
      simp -dsimp [e0, e5, e6, gw1, hs2.get, hc, hjL', hov, hwj]
      refine hold_mk ⟨j, by omega, j, v3, FT, FG, by omega, rfl, by simp [e0], by simp [e5], by simp, hk1, ?_, ?_, hFT, hFG, hdj⟩
      · rw [hst]; exact hr0
      · rw [hgs]; exact hg1
  · have : k = 0 := by omega
    subst this
    have hfin : partG p ds 0 = ds.filter p := by simp [partG]
    have hgf : sortI (goneG q ds 0) = sortI ((ds.filter q).map (·.id)) := by
      refine sortI_perm ?_
      unfold goneG
      rw [List.drop_zero]
      exact (List.reverse_perm _).map _
    have hgl := goneG_len (q := q) (l := ds) (k := 0)
    rw [hfin] at hr0
    simp -dsimp [e0, e5, e6]
    refine (f65 hg1 (by omega)).some ?_
    rintro v6 H6 ⟨hs6, g6⟩
    rw [hgf] at hs6
    simp -dsimp
    have n6 := g6.next
    obtain ⟨v7, Fw7, hF7, gw7, hs7⟩ := hr0.grow g6
    refine fin_mk ⟨v6, rfl, hs6.mono fun i h => ?_, ⟨v7, .inl Fw, ?_, gw7, hs7.mono fun i h => ⟨?_, h.2⟩⟩, hk1.trans (Grows.keeps g6)⟩
    · rcases h with h | h
      · exact h.elim
      · exact .inr ⟨by omega, h.2⟩
    · rintro i (h | h)
      · have := hF i h; omega
      · exact h.2
    · rcases hFT i h.1 with h' | h'
      · exact .inl h'
      · exact .inr ⟨h'.1, by omega⟩
end Go.Proofs.Ytmdmabedfleacaa
