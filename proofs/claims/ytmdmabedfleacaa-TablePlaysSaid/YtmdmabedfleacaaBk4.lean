/- A part of the proof: contracts of functions, over the abstract machine. -/
import Derived.Test.YtmdmabedfleacaaBk3
set_option linter.unusedVariables false
set_option linter.unusedSimpArgs false
set_option linter.all false
namespace Go.Proofs.Ytmdmabedfleacaa
open Ram Go

variable {W0 : World} {H : AH}

def overB (now most : Int) (x : Blk) : Bool := decide (most ≤ IntKind.i64.wrap (now - x.at_))

/-- 'over' tests. -/
theorem tests_over {b c4 c3 : Nat} {now most : Int} {f v : V} {G : Nat → Prop} (h4 : H.get c4 = some (.cells .rw [.p (some (b, 0))])) (h3 : H.get c3 = some (.cells .rw [.i .i64 most])) (hb : H.get b = some (.cells .rw [.i .i64 now, f, v]))
    (l4 : c4 < H.next) (l3 : c3 < H.next) (lb : b < H.next) (n4 : ¬ G c4) (n3 : ¬ G c3) (nb : ¬ G b) (l : List Blk) : Tests W0 H (.f (.func 48) [] [.p (some (c4, 0)), .p (some (c3, 0))]) Blk.c (overB now most) l G :=
  ⟨48, [], _, rfl, fun x _ H' hg => f48 (hg.at l4 n4 h4) (hg.at l3 n3 h3) (hg.at lb nb hb) (Nat.lt_of_lt_of_le l4 hg.next) (Nat.lt_of_lt_of_le l3 hg.next) (Nat.lt_of_lt_of_le lb hg.next)⟩

/-- (*Blocks).Tick. -/
theorem f18 (n : Int) {b : Nat} {now most : Int} {l : List Blk} {F : Nat → Prop} (hb : BRep H b now most l F) : ACalls Try.prog W0 18 [.p (some (b, 0)), .i .i64 n] H fun e H' =>
    e = .ret (.i .i64 (l.length - (l.filter fun x => !overB (IntKind.i64.wrap (now + stepOf n)) most x).length)) ∧ BRep H' b (IntKind.i64.wrap (now + stepOf n)) most (l.filter fun x => !overB (IntKind.i64.wrap (now + stepOf n)) most x) (Up F H H') ∧ Keeps F H H' := by
  obtain ⟨c4, c3, v, n4, n3, Fb, F4, F3, hF, hl, gb, g4, g3, hs⟩ := hb
  have lb := hF _ Fb
  have l4 := hF _ F4
  have l3 := hF _ F3
  refine acalls_by k18 (by simp) ?_
  obtain ⟨e', a', cap', rfl⟩ := hs.len
  have hst : (if 0 < (if 100000 < n then 100000 else n) then (if 100000 < n then 100000 else n) else 0) = stepOf n := rfl
  obtain ⟨now', hnow⟩ : ∃ x, x = IntKind.i64.wrap (now + stepOf n) := ⟨_, rfl⟩
  rw [← hnow]
  simp -dsimp [gb, hst, ← hnow]
  rw [List.length_map] at hs
  have hs1 : SlV (H.set b (.cells .rw [.i .i64 now', .f (.func 48) [] [.p (some (c4, 0)), .p (some (c3, 0))], .sl e' a' l.length cap'])) .rw 6 (.sl e' a' l.length cap') (l.map Blk.c) (fun i => F i ∧ i ≠ b ∧ i ≠ c4 ∧ i ≠ c3) :=
    hs.keep (G := fun i => i = b) (Keeps.set fun _ => rfl) fun i h e => h.2.1 e
  refine (f52 hs1 (tests_over (now := now') (most := most) (b := b) (by simp [n4, g4]) (by simp [n3, g3]) (by rw [AH.get_set, if_pos rfl]) (by simpa using l4) (by simpa using l3) (by simpa using lb) (fun h => h.2.2.1 rfl) (fun h => h.2.2.2 rfl) (fun h => h.2.1 rfl) l) (by simp) (by omega)).mono ?_
  rintro _ H2 ⟨v', rfl, hs2, hk2⟩
  have hlf := List.length_filter_le (fun x => !overB now' most x) l
  obtain ⟨e2, a2, cap2, rfl⟩ := hs2.len
  rw [List.length_map] at hs2
  have gb2 := hk2.at (i := b) (by simpa using lb) (fun h => h.2.1 rfl) (by rw [AH.get_set, if_pos rfl])
  have g42 := hk2.at (i := c4) (by simpa using l4) (fun h => h.2.2.1 rfl) (by rw [AH.get_set, if_neg n4]; exact g4)
  have g32 := hk2.at (i := c3) (by simpa using l3) (fun h => h.2.2.2 rfl) (by rw [AH.get_set, if_neg n3]; exact g3)
  have hw : IntKind.i64.wrap ((l.length : Int) - ((l.filter fun x => !overB now' most x).length : Nat)) = (l.length : Int) - ((l.filter fun x => !overB now' most x).length : Nat) := wrap_i64 (by omega) (by omega)
  simp -dsimp [gb2, hw]
  have hnx := hk2.next
  simp only [AH.next_set'] at hnx
  refine ⟨⟨c4, c3, _, n4, n3, .inl Fb, .inl F4, .inl F3, ?_, by omega, by rw [AH.get_set, if_pos rfl], by rw [AH.get_set, if_neg n4]; exact g42, by rw [AH.get_set, if_neg n3]; exact g32, ?_⟩, ?_⟩
  · rintro i (h | h)
    · have := hF _ h; simp <;> omega
    · exact h.2
  · exact (hs2.mono fun i h => ⟨.inl h.1, h.2⟩).keep (G := fun i => i = b) (Keeps.set fun _ => rfl) fun i h e => h.2.1 e
  · exact Keeps.set_own (Keeps.trans (Keeps.set fun _ => Fb) (hk2.mono fun i _ h => h.1)) Fb

/-- (*Blocks).Clear. -/
theorem f25 {b : Nat} {now most : Int} {l : List Blk} {F : Nat → Prop} (hb : BRep H b now most l F) : ACalls Try.prog W0 25 [.p (some (b, 0))] H fun e H' =>
    e = .ret (.i .i64 l.length) ∧ BRep H' b now most [] (Up F H H') ∧ Keeps F H H' := by
  obtain ⟨c4, c3, v, n4, n3, Fb, F4, F3, hF, hl, gb, g4, g3, hs⟩ := hb
  have lb := hF _ Fb
  refine acalls_by k25 (by simp) ?_
  obtain ⟨e', a', cap', rfl⟩ := hs.len
  simp -dsimp [gb]
  refine ⟨⟨c4, c3, _, n4, n3, .inl Fb, .inl F4, .inl F3, ?_, by simp, by rw [AH.get_set, if_pos rfl], by rw [AH.get_set, if_neg n4]; exact g4, by rw [AH.get_set, if_neg n3]; exact g3, .inl ⟨rfl, _, rfl⟩⟩, ?_⟩
  · rintro i (h | h)
    · have := hF _ h; simp <;> omega
    · exact h.2
  · exact Keeps.set fun _ => Fb

def tupRow (x : Blk) : List V := x.t.c

/-- (*Blocks).All. -/
theorem f19 {b : Nat} {now most : Int} {l : List Blk} {F : Nat → Prop} (hb : BRep H b now most l F) : ACalls Try.prog W0 19 [.p (some (b, 0))] H fun e H' =>
    ∃ v, e = .ret v ∧ SlV H' .rw 5 v (l.map tupRow) (Up NoId H H') ∧ Grows H H' := by
  obtain ⟨c4, c3, v, n4, n3, Fb, F4, F3, hF, hl, gb, g4, g3, hs⟩ := hb
  refine acalls_by k19 (by simp) ?_
  obtain ⟨e', a', cap', hv⟩ := hs.len
  rw [List.length_map] at hv
  simp -dsimp [gb, hv]
  refine awp_loop (fun m env H1 => ∃ i : Nat, i ≤ l.length ∧ m = l.length - i ∧ Grows H H1 ∧ env.get 9 = some v ∧ env.get 10 = some (.i .i64 l.length) ∧ env.get 11 = some (.i .i64 i) ∧
    ∃ v3, env.get 3 = some v3 ∧ SlV H1 .rw 5 v3 ((l.map tupRow).take i) (Up NoId H H1)) l.length ⟨0, by simp, by simp, Keeps.refl, by simp -dsimp [hv], by simp, by simp, _, by simp -dsimp; rfl, .inl ⟨by simp, _, rfl⟩⟩ ?_
  rintro m env H1 ⟨i, hi, rfl, hgr, e9, e10, e11, v3, e3, hs3⟩
  by_cases hlt : i < l.length
  · rcases hs with ⟨hnil, _⟩ | ⟨id, o, cap, cs, rfl, hF', hs⟩
    · simp only [List.map_eq_nil_iff] at hnil; subst hnil; simp at hlt
    have hr : l[i]? = some l[i] := List.getElem?_eq_getElem hlt
    have hs1 := hs.keep hgr fun h => h
    have hrow := hs1.row (i := i) (r := l[i].c) (by simp [hr])
    simp -dsimp [e9, e10, e11, e3, hlt, hrow]
    have hk1 : Grows H1 ((H1.alloc (.cells .rw l[i].c)).alloc (.cells .rw l[i].t.c)) := Keeps.alloc' (Keeps.alloc' Keeps.refl)
    refine (app_row (F := Up NoId H H1) (hs3.keep hk1 fun _ _ h => h) (r := l[i].t.c) (by simp) (by simp) (by simp <;> omega) (by simp <;> omega)).mono ?_
    rintro v4 H3 ⟨hs4, hk4⟩
    have hn := hgr.next
    have hn4 := hk4.next
    simp at hn4
    have hgr3 : Grows H H3 := (Keeps.trans hgr hk1).then hk4 fun j hj h => by rcases h with h | h <;> omega
    simp -dsimp [e9, e10, e11]
    rw [wrap_i64 (by omega) (by omega)]
    refine ⟨l.length - (i + 1), by omega, i + 1, by omega, rfl, hgr3, rfl, ?_⟩
    have : (l.map tupRow).take i ++ [l[i].t.c] = (l.map tupRow).take (i + 1) := by
      rw [List.take_add_one, List.getElem?_map, hr]; rfl
    rw [this] at hs4
    refine hs4.mono fun j hj => ?_
    rcases hj with (h | h) | h
    · exact h.elim
    · exact .inr ⟨h.1, by omega⟩
    · simp at h; exact .inr ⟨by omega, h.2⟩
  · simp -dsimp [e9, e10, e11, e3, hlt]
    rw [List.take_of_length_le (by simp <;> omega)] at hs3
    exact ⟨hs3, hgr⟩
end Go.Proofs.Ytmdmabedfleacaa
