/- A part of the proof: contracts of functions, over the abstract machine. -/
import Derived.Test.YtmdmabedfleacaaBk12
import Derived.Test.YtmdmabedfleacaaBk4
set_option linter.unusedVariables false
set_option linter.unusedSimpArgs false
set_option linter.all false
namespace Go.Proofs.Ytmdmabedfleacaa
open Ram Go

variable {W0 : World} {H : AH}

/-- A list whose end is filtered. -/
def part (p : Blk → Bool) (l : List Blk) (k : Nat) : List Blk := l.take k ++ (l.drop k).filter p

theorem part_step {p : Blk → Bool} {l : List Blk} {k : Nat} (hk : k < l.length) : part p l k = if p l[k] then part p l (k + 1) else (part p l (k + 1)).eraseIdx k := by
  unfold part
  have h1 : l.drop k = l[k] :: l.drop (k + 1) := List.drop_eq_getElem_cons hk
  have h2 : l.take (k + 1) = l.take k ++ [l[k]] := by rw [List.take_add_one, List.getElem?_eq_getElem hk]; rfl
  have h3 : (l.take k).length = k := by simp; omega
  rw [h1, h2]
  cases h : p l[k]
  · simp only [Bool.false_eq_true, if_false, List.filter_cons_of_neg (p := p) (a := l[k]) (by simp [h])]
    rw [List.append_assoc, List.eraseIdx_append_of_length_le (by omega), h3, Nat.sub_self]
    rfl
  · simp only [if_true, List.filter_cons_of_pos h, List.append_assoc, List.singleton_append]

theorem part_get {p : Blk → Bool} {l : List Blk} {k : Nat} (hk : k < l.length) : (part p l (k + 1))[k]? = some l[k] := by
  unfold part
  rw [List.getElem?_append_left (by simp; omega), List.getElem?_take, if_pos (by omega), List.getElem?_eq_getElem hk]
theorem part_len {p : Blk → Bool} {l : List Blk} {k : Nat} (hk : k ≤ l.length) : k ≤ (part p l k).length ∧ (part p l k).length ≤ l.length := by
  unfold part
  have := List.length_filter_le p (l.drop k)
  simp at this ⊢; omega

/-- B.Tick. -/
theorem f24 (n : Int) {w : Nat} {ticks now : Int} {l : List Blk} {F : Nat → Prop} (hw : RRep H w ticks now l F) (hl : l.length ≤ 64) : ACalls Try.prog W0 24 [.p (some (w, 0)), .i .i64 n] H fun e H' =>
    e = .ret (.i .i64 (l.length - (l.filter fun x => !overB (IntKind.i64.wrap (now + stepOf n)) ticks x).length)) ∧ RRep H' w ticks (IntKind.i64.wrap (now + stepOf n)) (l.filter fun x => !overB (IntKind.i64.wrap (now + stepOf n)) ticks x) (Up F H H') ∧ Keeps F H H' := by
  obtain ⟨v, Fw, hF, gw, hs⟩ := hw
  have lw := hF _ Fw
  refine acalls_by k24 (by simp) ?_
  obtain ⟨e', a', cap', rfl⟩ := hs.len
  rw [List.length_map] at gw hs
  have hst : (if (if n < 0 then 0 else n) < 100000 then (if n < 0 then 0 else n) else 100000) = stepOf n := by unfold stepOf; (repeat' split) <;> omega
  have hst' : (if 100000 < (if n < 0 then 0 else n) then 100000 else (if n < 0 then 0 else n)) = stepOf n := by unfold stepOf; (repeat' split) <;> omega
  have hst2 : (if 100000 < (if 0 < n then n else 0) then 100000 else (if 0 < n then n else 0)) = stepOf n := by unfold stepOf; (repeat' split) <;> omega
  have hst3 : (if (if 0 < n then n else 0) < 100000 then (if 0 < n then n else 0) else 100000) = stepOf n := by unfold stepOf; (repeat' split) <;> omega
  obtain ⟨now', hnow⟩ : ∃ x, x = IntKind.i64.wrap (now + stepOf n) := ⟨_, rfl⟩
  rw [← hnow]
  have hwl : IntKind.i64.wrap ((l.length : Int) - 1) = (l.length : Int) - 1 := wrap_i64 (by omega) (by omega)
  simp -dsimp [gw, hst, hst', hst2, hst3, ← hnow, hwl]
  obtain ⟨p, hp⟩ : ∃ p : Blk → Bool, p = fun x => !overB now' ticks x := ⟨_, rfl⟩
  rw [← hp]
  have hs1 : SlV (H.set w (.cells .rw [.i .i64 ticks, .i .i64 now', .sl e' a' l.length cap'])) .rw 7 (.sl e' a' l.length cap') (l.map zrow) (fun i => F i ∧ i ≠ w) := hs.keep (G := fun i => i = w) (Keeps.set fun _ => rfl) fun i h e => h.2 e
  have hp0 : part p l l.length = l := by simp [part]
  refine awp_round (fun m env H1 => ∃ k : Nat, k ≤ l.length ∧ k = m ∧ env.get 0 = some (.p (some (w, 0))) ∧ env.get 5 = some (.i .i64 l.length) ∧ env.get 6 = some (.i .i64 ((k : Int) - 1)) ∧ Keeps F H H1 ∧
    RRep H1 w ticks now' (part p l k) (Up F H H1)) l.length ⟨l.length, by omega, by omega, by simp, by simp, by simp, Keeps.set fun _ => Fw,
      ⟨_, .inl Fw, ?_, by rw [AH.get_set, if_pos rfl], by rw [hp0]; exact hs1.mono fun i h => ⟨.inl h.1, h.2⟩⟩⟩ ?_
  · rintro i (h | h)
    · have := hF _ h; simp <;> omega
    · exact h.2
  rintro m env H1 ⟨k, hk, rfl, e0, e5, e6, hk1, hr1⟩
  have hr0 := hr1
  obtain ⟨v1, Fw1, hF1, gw1, hs2⟩ := hr1
  by_cases hk0 : 0 < k
  · obtain ⟨j, rfl⟩ : ∃ j, k = j + 1 := ⟨k - 1, by omega⟩
    have hjl : j < l.length := by omega
    have hpl := part_len (p := p) (l := l) (k := j + 1) hk
    have hget := part_get (p := p) (l := l) hjl
    obtain ⟨L, hL⟩ : ∃ L, L = part p l (j + 1) := ⟨_, rfl⟩
    rw [← hL] at hget hpl hs2
    rcases hs2 with ⟨hnil, _⟩ | ⟨id, o, cap, cs, rfl, hF', hs2⟩
    · simp only [List.map_eq_nil_iff] at hnil; rw [hnil] at hpl; simp at hpl
    rw [List.length_map] at gw1
    have hj1 : ((j + 1 : Nat) : Int) - 1 = j := by omega
    rw [hj1] at e6
    have hjL : (j : Int) < L.length := by omega
    have hc := hs2.cell (i := j) (j := 6) (r := zrow l[j]) (by rw [List.getElem?_map, hget]; rfl) (by omega)
    simp [zrow] at hc
    have hwj : IntKind.i64.wrap ((j : Int) - 1) = (j : Int) - 1 := wrap_i64 (by omega) (by omega)
    have hjL' : j < L.length := by omega
    have hst := part_step (p := p) hjl
    rw [← hL] at hst
    by_cases hov : ticks ≤ IntKind.i64.wrap (now' - l[j].at_)
    · have hpj : p l[j] = false := by rw [hp]; simp [overB, hov]
      rw [hpj] at hst
      simp only [Bool.false_eq_true, if_false] at hst
      simp -dsimp [e0, e5, e6, gw1, hs2.get, hc, hjL', hov]
      have hs3 : SlV H1 .rw 7 (.sl 7 (some (id, o)) L.length cap) (L.map zrow) (fun i => Up F H H1 i ∧ i ≠ w) := .inr ⟨id, o, cap, cs, by simp, hF', hs2⟩
      refine (f55 (i := j) hs3 (by simpa using hjL') (by simp <;> omega)).some ?_
      rintro v4 H4 ⟨hs4, g4⟩
      obtain ⟨e7, a7, c7, rfl⟩ := hs4.len
      have gw4 := Grows.at g4 (hF1 _ Fw1) gw1
      simp -dsimp [e0, e5, e6, gw4, hwj]
      have hn4 := g4.next
      have hn1 := hk1.next
      refine hold_mk ⟨j, by omega, j, by omega, rfl, by simp [e0], by simp [e5], by simp, Keeps.set_own (Keeps.trans hk1 (Grows.keeps g4)) Fw, ⟨_, .inl Fw, ?_, by rw [AH.get_set, if_pos rfl], ?_⟩⟩
      · rintro i (h | h)
        · have := hF _ h; simp <;> omega
        · exact h.2
      · rw [hst, map_eraseIdx]
        exact (hs4.keep (G := fun i => i = w) (Keeps.set fun _ => rfl) fun i h e => by
          rcases h with h | h
          · exact h
          · have := hF1 _ Fw1; omega).mono fun i h => by
          rcases h with h | h
          · exact h.elim
          · exact ⟨.inr ⟨by omega, h.2⟩, by omega⟩
    · have hpj : p l[j] = true := by rw [hp]; simp [overB, hov] <;> omega
      rw [hpj] at hst
      simp only [if_true] at hst
      simp -dsimp [e0, e5, e6, gw1, hs2.get, hc, hjL', hov, hwj]
      refine hold_mk ⟨j, by omega, j, by omega, rfl, by simp [e0], by simp [e5], by simp, hk1, ?_⟩
      rw [hst, hL]; exact hr0
  · have : k = 0 := by omega
    subst this
    have hfin : part p l 0 = l.filter p := by simp [part]
    rw [hfin] at hs2 hr0
    obtain ⟨e7, a7, c7, rfl⟩ := hs2.len
    have hlf := List.length_filter_le p l
    have hwf : IntKind.i64.wrap ((l.length : Int) - ((l.filter p).length : Nat)) = (l.length : Int) - ((l.filter p).length : Nat) := wrap_i64 (by omega) (by omega)
    rw [List.length_map] at gw1
    simp -dsimp [e0, e5, e6, gw1, hwf]
    exact ⟨hr0, hk1⟩
end Go.Proofs.Ytmdmabedfleacaa
