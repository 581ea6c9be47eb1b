/- A part of the proof: contracts of functions, over the abstract machine. -/
import Derived.Test.YtmdmabedfleacaaBk2
import Derived.Test.YtmdmabedfleacaaRaD
set_option linter.unusedVariables false
set_option linter.unusedSimpArgs false
set_option linter.all false
namespace Go.Proofs.Ytmdmabedfleacaa
open Ram Go

variable {W0 : World} {H : AH}

/-- Blocks: where they lie. -/
def BRep (H : AH) (b : Nat) (now most : Int) (l : List Blk) (F : Nat → Prop) : Prop :=
  ∃ c4 c3 v, c4 ≠ b ∧ c3 ≠ b ∧ F b ∧ F c4 ∧ F c3 ∧ (∀ i, F i → i < H.next) ∧ l.length ≤ 64 ∧
    H.get b = some (.cells .rw [.i .i64 now, .f (.func 48) [] [.p (some (c4, 0)), .p (some (c3, 0))], v]) ∧ H.get c4 = some (.cells .rw [.p (some (b, 0))]) ∧ H.get c3 = some (.cells .rw [.i .i64 most]) ∧
    SlV H .rw 6 v (l.map Blk.c) (fun i => F i ∧ i ≠ b ∧ i ≠ c4 ∧ i ≠ c3)

def mostOf (t : Int) : Int := if 1 < (if 100000 < t then 100000 else t) then (if 100000 < t then 100000 else t) else 1
def stepOf (n : Int) : Int := if 0 < (if 100000 < n then 100000 else n) then (if 100000 < n then 100000 else n) else 0

/-- blocks.New. -/
theorem f15 (t : Int) : ACalls Try.prog W0 15 [.i .i64 t] H fun e H' => ∃ b, e = .ret (.p (some (b, 0))) ∧ BRep H' b 0 (mostOf t) [] (Up NoId H H') ∧ Grows H H' ∧ H.next ≤ b := by
  refine acalls_by k15 (by simp) ?_
  simp -dsimp
  refine ⟨⟨H.next + 2, H.next, .sl 0 none 0 0, ?_⟩, ?_⟩
  · refine ⟨by omega, by omega, ?_⟩
    simp -dsimp [Up, mostOf, SlV, NoId]
    have h1 : ¬ (H.next = H.next + 1 + 1) := by omega
    simp -dsimp [h1]; omega
  · exact Keeps.set_new (Keeps.alloc' (Keeps.alloc' (Keeps.alloc' Keeps.refl))) (by simp)

/-- (*Blocks).Has. -/
theorem f20 (t : Tup) {b : Nat} {now most : Int} {l : List Blk} {F : Nat → Prop} (hb : BRep H b now most l F) : ACalls Try.prog W0 20 [.p (some (b, 0)), .agg t.c] H fun e H' => e = .ret (.b (l.any fun x => same t x.t)) ∧ Grows H H' := by
  obtain ⟨c4, c3, v, n4, n3, Fb, F4, F3, hF, hl, gb, g4, g3, hs⟩ := hb
  have lb := hF _ Fb
  refine acalls_by k20 (by simp) ?_
  simp -dsimp [gb, Nat.ne_of_lt lb, ldCells]
  refine (f50 t).mono ?_
  rintro _ _ ⟨rfl, rfl⟩
  have nb : ¬ b = H.next + 1 := by omega
  simp -dsimp [gb, Nat.ne_of_lt lb, nb]
  have hk : Grows H ((H.alloc (.cells .rw t.c)).alloc (.cells .rw t.c)) := Keeps.alloc' (Keeps.alloc' Keeps.refl)
  refine (f53 (hs.keep hk fun _ _ h => h) (tests_same t (G := NoId) (by simp) (by simp) (fun h => h) l) (by omega)).mono ?_
  rintro _ H2 ⟨rfl, hg⟩
  simp -dsimp
  exact hk.trans hg

def cut64 (m : List Blk) : List Blk := if 64 < m.length then m.drop (m.length - 64) else m
def addB (l : List Blk) (now : Int) (t : Tup) : List Blk :=
  match l.findIdx? fun x => same t x.t with
    | some i => cut64 (l.eraseIdx i ++ [Blk.mk ((l[i]?.map (·.t)).getD t) now])
    | none => cut64 (l ++ [Blk.mk t now])

theorem findIdx_lt {α : Type} {p : α → Bool} {l : List α} {i : Nat} (h : l.findIdx? p = some i) : i < l.length := by
  rw [List.findIdx?_eq_some_iff_getElem] at h; exact h.1

/-- (*Blocks).Add. -/
theorem f17 (t : Tup) {b : Nat} {now most : Int} {l : List Blk} {F : Nat → Prop} (hb : BRep H b now most l F) : ACalls Try.prog W0 17 [.p (some (b, 0)), .agg t.c] H fun e H' => e = .ret (.tup []) ∧ BRep H' b now most (addB l now t) (Up F H H') ∧ Keeps F H H' := by
  obtain ⟨c4, c3, v, n4, n3, Fb, F4, F3, hF, hl, gb, g4, g3, hs⟩ := hb
  have lb := hF _ Fb
  have l4 := hF _ F4
  have l3 := hF _ F3
  refine acalls_by k17 (by simp) ?_
  rw [awp_assoc]
  refine awp_cut (fun env H' => env.get 0 = some (.p (some (b, 0))) ∧ env.get 3 = some (.p (some (H.next, 0))) ∧ ∃ l' tx v', l'.length ≤ 64 ∧
    addB l now t = cut64 (l' ++ [Blk.mk tx now]) ∧
    H'.get H.next = some (.cells .rw tx.c) ∧ H'.get b = some (.cells .rw [.i .i64 now, .f (.func 48) [] [.p (some (c4, 0)), .p (some (c3, 0))], v']) ∧
    SlV H' .rw 6 v' (l'.map Blk.c) (fun i => F i ∧ i ≠ b ∧ i ≠ c4 ∧ i ≠ c3) ∧ Keeps (fun i => F i ∧ i ≠ c4 ∧ i ≠ c3) H H' ∧ H.next < H'.next) ?_ ?_
  · simp -dsimp [gb, Nat.ne_of_lt lb]
    refine (f50 t).mono ?_
    rintro _ _ ⟨rfl, rfl⟩
    have nb : ¬ b = H.next + 1 := by omega
    simp -dsimp [gb, Nat.ne_of_lt lb, nb]
    have hk : Grows H ((H.alloc (.cells .rw t.c)).alloc (.cells .rw t.c)) := Keeps.alloc' (Keeps.alloc' Keeps.refl)
    refine (f49 (hs.keep hk fun _ _ h => h) (tests_same t (G := NoId) (by simp) (by simp) (fun h => h) l) (by omega)).mono ?_
    rintro _ H2 ⟨hg, ⟨i, hi, rfl⟩ | ⟨hi, rfl⟩⟩
    · have hil := findIdx_lt hi
      have gr := hk.trans hg
      have gb2 := Grows.at gr lb gb
      have hbox : H2.get H.next = some (.cells .rw t.c) := hg.at (by simp; omega) (by simp)
      simp only [Tup.c] at hbox
      rcases hs with ⟨hnil, _⟩ | ⟨id, o, cap, cs, rfl, ⟨Fid, i1, i2, i3⟩, hs⟩
      · simp only [List.map_eq_nil_iff] at hnil; subst hnil; simp at hil
      have hs2 := hs.keep gr fun h => h
      have hrow : ldCells H2 id (o + i * 6) 5 = some l[i].t.c := by
        have := hs2.row_part (i := i) (r := l[i].c) (by simp -dsimp [hil]) (off := 0) (n := 5) (by omega)
        simpa using this
      have hil' : (i : Int) < l.length := by omega
      have nbn : ¬ b = H.next := by omega
      have hw : IntKind.i64.wrap ((i : Int) + 1) = ((i + 1 : Nat) : Int) := by rw [wrap_i64 (by omega) (by omega)]; omega
      simp -dsimp [gb2, hil, hrow, hbox, nbn, hw]
      have hn2 := gr.next
      have hln : H.next < H2.next := Nat.lt_of_lt_of_le (by simp <;> omega) hg.next
      have idn : id ≠ H.next := by have := hF _ Fid; omega
      have hv : SlV (H2.set H.next (.cells .rw l[i].t.c)) .rw 6 (.sl 6 (some (id, o)) l.length cap) (l.map Blk.c) (fun i => F i ∧ i ≠ b ∧ i ≠ c4 ∧ i ≠ c3) :=
        .inr ⟨id, o, cap, cs, by simp, ⟨Fid, i1, i2, i3⟩, hs2.keep (F := fun i => i = H.next) (Keeps.set fun _ => rfl) idn⟩
      refine (f51 hv hil (by omega)).mono ?_
      rintro _ H3 ⟨v', rfl, hs3, hk3, hn3⟩
      obtain ⟨e', a', cap', rfl⟩ := hs3.len
      rw [List.length_map] at hs3
      have gb3 := hk3.at (i := b) (by simp <;> omega) (fun h => h.2.1 rfl) (by rw [AH.get_set, if_neg nbn]; exact gb2)
      have gx3 := hk3.at (i := H.next) (o := .cells .rw l[i].t.c) (by simp <;> omega) (fun h => by have := hF _ h.1; omega) (by rw [AH.get_set, if_pos rfl])
      simp -dsimp [gb3]
      refine hold_mk ⟨by simp, by simp, l.eraseIdx i, l[i].t, _, by rw [List.length_eraseIdx]; split <;> omega, by simp [addB, hi, hil], ?_, by rw [AH.get_set, if_pos rfl], ?_, ?_, ?_⟩
      · rw [AH.get_set, if_neg (by omega)]; exact gx3
      · exact hs3.keep (G := fun i => i = b) (Keeps.set fun _ => rfl) fun i h e => h.2.1 e
      · refine Keeps.set_own (Keeps.trans (Keeps.set_new (Grows.keeps gr) (by omega)) (hk3.mono fun i _ h => ⟨h.1, h.2.2⟩)) ⟨Fb, n4.symm, n3.symm⟩
      · simp only [AH.next_set', hn3]; omega
    · have gr := hk.trans hg
      have gb2 := Grows.at gr lb gb
      have hbox : H2.get H.next = some (.cells .rw t.c) := hg.at (by simp <;> omega) (by simp)
      simp -dsimp
      exact hold_mk ⟨by simp, by simp, l, t, v, hl, by simp [addB, hi], hbox, gb2, hs.keep gr fun _ _ h => h, Grows.keeps gr, Nat.lt_of_lt_of_le (by simp <;> omega) hg.next⟩
  · rintro env H2 ⟨e0, e3, l', tx, v', hl', hadd, gx, gb2, hs2, hk2, hn2⟩
    have nbn : ¬ b = H.next := by omega
    simp -dsimp [e0, e3, gb2, gx, ldCells_of gx]
    have hs3 : SlV ((H2.bump 16).set (H2.next + 11) (.cells .rw (Blk.mk tx now).c)) .rw 6 v' (l'.map Blk.c) (fun i => F i ∧ i ≠ b ∧ i ≠ c4 ∧ i ≠ c3) :=
      hs2.keep (G := NoId) ⟨by simp, fun i hi _ => by rw [AH.get_set, if_neg (by omega), bump_get]⟩ fun _ _ h => h
    refine (app_row hs3 (r := (Blk.mk tx now).c) (by simp) (by simp) (by simp <;> omega) (by simp <;> omega)).mono ?_
    rintro v3 H3 ⟨hs4, hk4⟩
    obtain ⟨e', a', cap', rfl⟩ := hs4.len
    have gb3 := hk4.at (i := b) (by simp <;> omega) (fun h => h.2.1 rfl) (by rw [AH.get_set, if_neg (by omega), bump_get]; exact gb2)
    have hb3 : ¬ H3.next ≤ b := by have := hk4.next; simp at this; omega
    have hup : ∀ i, Up (fun i => F i ∧ i ≠ b ∧ i ≠ c4 ∧ i ≠ c3) ((H2.bump 16).set (H2.next + 11) (.cells .rw (Blk.mk tx now).c)) H3 i → Up F H H3 i ∧ i ≠ b ∧ i ≠ c4 ∧ i ≠ c3 := by
      intro i hi
      rcases hi with h | ⟨h, h'⟩
      · exact ⟨.inl h.1, h.2⟩
      · simp at h; exact ⟨.inr ⟨by omega, h'⟩, by omega, by omega, by omega⟩
    have hkk : Keeps (fun i => F i ∧ i ≠ c4 ∧ i ≠ c3) H H3 := by
      refine Keeps.trans hk2 (Keeps.trans (H₂ := (H2.bump 16).set (H2.next + 11) (.cells .rw (Blk.mk tx now).c)) ?_ (hk4.mono fun i _ h => ⟨h.1, h.2.2⟩))
      exact ⟨by simp, fun i hi _ => by rw [AH.get_set, if_neg (by omega), bump_get]⟩
    have fin : ∀ v4 m, m.length ≤ 64 → SlV H3 .rw 6 v4 (m.map Blk.c) (fun i => Up F H H3 i ∧ i ≠ b ∧ i ≠ c4 ∧ i ≠ c3) → m = addB l now t →
        BRep (H3.set b (.cells .rw [.i .i64 now, .f (.func 48) [] [.p (some (c4, 0)), .p (some (c3, 0))], v4])) b now most (addB l now t) (Up F H (H3.set b (.cells .rw [.i .i64 now, .f (.func 48) [] [.p (some (c4, 0)), .p (some (c3, 0))], v4]))) ∧
        Keeps F H (H3.set b (.cells .rw [.i .i64 now, .f (.func 48) [] [.p (some (c4, 0)), .p (some (c3, 0))], v4])) := by
      rintro v4 m hm hsm rfl
      have h4 := hkk.at l4 (fun h => h.2.1 rfl) g4
      have h3 := hkk.at l3 (fun h => h.2.2 rfl) g3
      refine ⟨⟨c4, c3, v4, n4, n3, .inl Fb, .inl F4, .inl F3, ?_, hm, by rw [AH.get_set, if_pos rfl], by rw [AH.get_set, if_neg n4]; exact h4, by rw [AH.get_set, if_neg n3]; exact h3, ?_⟩, ?_⟩
      · rintro i (h | h)
        · have := hF _ h; have := hkk.next; simp <;> omega
        · exact h.2
      · exact hsm.keep (G := fun i => i = b) (Keeps.set fun _ => rfl) fun i h e => h.2.1 e
      · exact Keeps.set_own (hkk.mono fun i _ h => h.1) Fb
    have hs5 := hs4.mono hup
    have hmap : l'.map Blk.c ++ [(Blk.mk tx now).c] = (l' ++ [Blk.mk tx now]).map Blk.c := by simp
    rw [hmap] at hs5
    by_cases h64 : 64 < (l'.length : Int) + 1
    · have h65 : l'.length = 64 := by omega
      rcases hs5 with ⟨hnil, _⟩ | ⟨id, o, cap, cs, hv5, hF5, hs5⟩
      · simp at hnil
      simp only [V.sl.injEq, List.length_append, List.length_singleton] at hv5
      obtain ⟨rfl, rfl, _, rfl⟩ := hv5
      have hw : IntKind.i64.wrap ((64 : Int) + 1 - 64) = 1 := by decide
      simp -dsimp [e0, gb3, h64, h65, hw]
      have hs6 := hs5.drop (k := 1) (by simp)
      have := fin (.sl 6 (some (id, o + 6)) 64 (cap' - 1)) ((l' ++ [Blk.mk tx now]).drop 1) (by simp [h65]) (.inr ⟨id, o + 6, cap' - 1, cs, by simp [h65], hF5, by simpa using hs6⟩) (by rw [hadd]; simp [cut64, h65])
      exact this
    · simp -dsimp [e0, gb3, h64]
      refine fin _ (l' ++ [Blk.mk tx now]) (by simp <;> omega) ?_ ?_
      · simpa using hs5
      · rw [hadd, cut64, if_neg (by simp <;> omega)]
end Go.Proofs.Ytmdmabedfleacaa
