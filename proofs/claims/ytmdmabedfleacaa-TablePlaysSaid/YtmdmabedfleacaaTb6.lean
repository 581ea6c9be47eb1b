/- A part of the proof: contracts of functions, over the abstract machine. -/
import Derived.Test.YtmdmabedfleacaaTb5
set_option linter.unusedVariables false
set_option linter.unusedSimpArgs false
set_option linter.all false
namespace Go.Proofs.Ytmdmabedfleacaa
open Ram Go

variable {W0 : World} {H : AH}

theorem mem_mid {α : Type} {X Y : List α} {y z : α} (h : z ∈ X ++ Y) : z ∈ X ++ y :: Y := by
  simp only [List.mem_append, List.mem_cons] at h ⊢
  rcases h with h | h
  · exact .inl h
  · exact .inr (.inr h)

theorem perm_erase {gs : List (Nat × Tup)} {i : Nat} {k : Nat × Tup} {A B : List (Nat × Tup)} (hi : gs[i]? = some k) (h : gs.Perm (A ++ k :: B)) : (gs.eraseIdx i).Perm (A ++ B) := by
  have hil := (List.getElem?_eq_some_iff.1 hi).1
  have hk := (List.getElem?_eq_some_iff.1 hi).2
  have h1 : gs = gs.take i ++ k :: gs.drop (i + 1) := by rw [← hk, List.getElem_cons_drop, List.take_append_drop]
  have h2 : gs.Perm (k :: gs.eraseIdx i) := by
    rw [List.eraseIdx_eq_take_drop_succ]
    conv => lhs; rw [h1]
    exact List.perm_middle
  exact ((h2.symm.trans h).trans List.perm_middle).cons_inv

/-- (*Table).gone. -/
theorem f45 {tb r mp : Nat} {most ticks now last : Int} {X Y : List Fl} {y : Fl} {gs : List (Nat × Tup)} {N : Nat → Nd} {F : Nat → Prop} (h : TR H tb most ticks now last r mp (X ++ y :: Y) gs N F) : ACalls Try.prog W0 45 [.p (some (tb, 0)), .p (some (y.1, 0))] H fun e H' =>
    e = .ret (.tup []) ∧ ∃ N' gs', TR H' tb most ticks now last r mp (X ++ Y) gs' N' F ∧ H'.get y.1 = some (N y.1).o ∧ Keeps F H H' ∧ H'.next = H.next := by
  obtain ⟨o1, o2, o3, o4⟩ := h.own
  have hyn := h.split
  have hring := h.ring
  rw [List.map_append, List.map_cons] at hring
  refine acalls_in k45 (by simp) ?_
  simp -dsimp
  refine (f58 hring).next ?_
  rintro H3 ⟨N3, r3, n3, gy3, k3, e3⟩
  rw [← List.map_append] at r3 k3
  have hsub : ∀ i, i ∈ r :: ((X ++ Y).map (·.1)) → F i := by
    intro i hi
    rcases List.mem_cons.1 hi with e | e
    · rw [e]; exact o2
    · obtain ⟨z, hz, rfl⟩ := List.mem_map.1 e
      exact o4 z (mem_mid hz)
  have hap : ∀ z ∈ X ++ Y, z.1 ≠ tb ∧ z.1 ≠ mp := fun z hz => h.apart.2.2.2 z (mem_mid hz)
  have htb : tb ∉ r :: ((X ++ Y).map (·.1)) := by
    intro hi
    rcases List.mem_cons.1 hi with e | e
    · exact h.apart.1 e
    · obtain ⟨z, hz, e'⟩ := List.mem_map.1 e
      exact (hap z hz).1 e'
  have hmp : mp ∉ r :: ((X ++ Y).map (·.1)) := by
    intro hi
    rcases List.mem_cons.1 hi with e | e
    · exact h.apart.2.2.1 e
    · obtain ⟨z, hz, e'⟩ := List.mem_map.1 e
      exact (hap z hz).2 e'
  have gt3 := k3.at (h.lt _ o1) htb h.tab
  have gm3 := k3.at (h.lt _ o3) hmp h.map
  have hny := h.node y (by simp)
  have gyl := gy3
  simp only [Nd.o, Nd.l, hny.1] at gyl
  simp only [tabO] at gt3
  obtain ⟨i, g1, g2⟩ := h.look (y := y) (by simp)
  simp only [Tup.c] at g1
  simp -dsimp [gt3, gyl, ldCells_of gyl, gm3, g1]
  have tmp : tb ≠ mp := h.apart.2.1
  have ymp : y.1 ≠ mp := (h.apart.2.2.2 y (by simp)).2
  refine fin_mk ⟨rfl, N3, gs.eraseIdx i, ⟨⟨o1, o2, o3, fun z hz => o4 z (mem_mid hz)⟩, fun j hj => by simp only [AH.next_set', e3]; exact h.lt j hj, ⟨h.apart.1, h.apart.2.1, h.apart.2.2.1, hap⟩, ?_, ?_, ?_, ?_, ?_, ?_⟩, ?_, ?_, by simp [e3]⟩
  · rw [AH.get_set, if_neg tmp]; exact gt3
  · exact r3.keep (F := fun j => j = mp) (Keeps.set fun _ => rfl) fun a ha e => hmp (e ▸ ha)
  · intro z hz
    obtain ⟨p1, p2, p3⟩ := n3 z.1
    obtain ⟨s1, s2, s3⟩ := h.node z (mem_mid hz)
    exact ⟨by rw [p1, s1], by rw [p2, s2], by rw [p3, s3]⟩
  · rw [AH.get_set, if_pos rfl]
    have : (gs.map ent).eraseIdx i = (gs.eraseIdx i).map ent := by rw [List.eraseIdx_eq_take_drop_succ, List.eraseIdx_eq_take_drop_succ]; simp
    rw [this]
  · have hp := h.perm
    rw [List.map_append, List.map_cons] at hp
    rw [List.map_append]
    exact perm_erase g2 hp
  · have hu := h.uniq
    rw [List.pairwise_append, List.pairwise_cons] at hu
    rw [List.pairwise_append]
    exact ⟨hu.1, hu.2.1.2, fun a ha b hb => hu.2.2 a ha b (by simp [hb])⟩
  · rw [AH.get_set, if_neg ymp]; exact gy3
  · exact Keeps.set_own (k3.mono fun i _ hi => hsub i hi) o3

/-- cut. -/
theorem f44 (v m : Int) : ACalls Try.prog W0 44 [.i .i64 v, .i .i64 m] H fun e H' => e = .ret (.i .i64 (max 1 (min v m))) ∧ H = H' := by
  refine acalls_in k44 (by simp) ?_
  simp -dsimp
  refine fin_mk ⟨?_, rfl⟩
  congr 2
  omega

/-- The table, by what it is. -/
def TRep (H : AH) (tb : Nat) (most ticks now last : Int) (ds : List Fd) (F : Nat → Prop) : Prop :=
  ∃ r mp fl gs N, TR H tb most ticks now last r mp fl gs N F ∧ ds = fl.map (·.2) ∧ (ds.length : Int) ≤ most ∧ most ≤ 64

/-- table.New. -/
theorem f11 (m t : Int) : ACalls Try.prog W0 11 [.i .i64 m, .i .i64 t] H fun e H' => ∃ tb, e = .ret (.p (some (tb, 0))) ∧ TRep H' tb (max 1 (min m 64)) (max 1 (min t 100000)) 0 0 [] (Up NoId H H') ∧ Grows H H' := by
  refine acalls_in k11 (by simp) ?_
  simp -dsimp
  refine (f44 m 64).next ?_
  rintro _ rfl
  simp -dsimp
  refine (f44 t 100000).next ?_
  rintro _ rfl
  simp -dsimp
  refine fin_mk ⟨H.next + 1 + 1, rfl, ⟨H.next, H.next + 1, [], [], fun _ => ⟨⟨0, 0, 0, 0, 0⟩, 0, 0, H.next, H.next⟩, ⟨⟨.inr ⟨by omega, by simp <;> omega⟩, .inr ⟨by omega, by simp <;> omega⟩, .inr ⟨by omega, by simp <;> omega⟩, by simp⟩, ?_, ⟨by omega, by omega, by omega, by simp⟩, ?_, ⟨?_, ?_, by simp, ⟨rfl, rfl, trivial⟩⟩, by simp, ?_, by simp, by simp⟩, rfl, by simp <;> omega, by omega⟩, Keeps.alloc' (Keeps.alloc' (Keeps.alloc' Keeps.refl))⟩
  · rintro i (h | h)
    · exact h.elim
    · exact h.2
  · simp [tabO]
  · simp [Nd.o, Nd.l] <;> omega
  · simp <;> omega
  · simp <;> omega

theorem path_get {N : Nat → Nd} : ∀ {l : List Nat} {i a b : Nat}, Path N l → l[i]? = some a → l[i + 1]? = some b → (N a).nx = b ∧ (N b).pv = a
  | [], _, _, _, _, h, _ => by simp at h
  | [x], i, a, b, _, _, h => by simp at h
  | x :: y :: l, 0, a, b, hp, h1, h2 => by
    simp only [List.getElem?_cons_zero, Option.some.injEq, Nat.zero_add, List.getElem?_cons_succ] at h1 h2
    subst h1; subst h2
    exact ⟨hp.1, hp.2.1⟩
  | x :: y :: l, i + 1, a, b, hp, h1, h2 => path_get (l := y :: l) hp.2.2 (by simpa using h1) (by simpa using h2)

def ptrRow (x : Fl) : List V := [.p (some (x.1, 0))]

/-- (*Table).all. -/
theorem f47 {tb r mp : Nat} {most ticks now last : Int} {fl : List Fl} {gs : List (Nat × Tup)} {N : Nat → Nd} {F : Nat → Prop} (h : TR H tb most ticks now last r mp fl gs N F) (hl : fl.length ≤ 64) : ACalls Try.prog W0 47 [.p (some (tb, 0))] H fun e H' =>
    ∃ v, e = .ret v ∧ SlV H' .rw 1 v (fl.map ptrRow) (Up NoId H H') ∧ Grows H H' := by
  refine acalls_in k47 (by simp) ?_
  have gt := h.tab
  have gr := h.ring.get r (by simp)
  simp only [tabO] at gt
  simp only [Nd.o, Nd.l] at gr
  simp -dsimp [gt, gr]
  obtain ⟨L, hL⟩ : ∃ L, L = fl.map (·.1) ++ [r] := ⟨_, rfl⟩
  have hpath := h.ring.path
  rw [List.cons_append, ← hL] at hpath
  have hLl : L.length = fl.length + 1 := by rw [hL]; simp
  have hL0 : ∃ b, L[0]? = some b := ⟨_, List.getElem?_eq_getElem (by omega)⟩
  obtain ⟨b0, hb0⟩ := hL0
  have hr0 := path_get (i := 0) (a := r) (b := b0) hpath rfl (by simpa using hb0)
  rw [hr0.1]
  refine awp_round (fun m env H1 => ∃ i c : Nat, i ≤ fl.length ∧ m = fl.length - i ∧ L[i]? = some c ∧ Grows H H1 ∧ env.get 0 = some (.p (some (tb, 0))) ∧ env.get 4 = some (.p (some (c, 0))) ∧
    ∃ v3, env.get 3 = some v3 ∧ SlV H1 .rw 1 v3 ((fl.map ptrRow).take i) (Up NoId H H1)) fl.length ⟨0, b0, by omega, by omega, hb0, Keeps.refl, by simp, by simp, _, by simp; rfl, .inl ⟨by simp, _, rfl⟩⟩ ?_
  rintro m env H1 ⟨i, c, hi, rfl, hc, hgr, e0, e4, v3, e3, hs3⟩
  have gt1 := Grows.at hgr (h.lt _ h.own.1) gt
  have gr1 := Grows.at hgr (h.ring.lt r (by simp)) gr
  by_cases hlt : i < fl.length
  · have hc' : c = fl[i].1 := by
      rw [hL, List.getElem?_append_left (by simpa using hlt), List.getElem?_map, List.getElem?_eq_getElem hlt] at hc
      simpa using hc.symm
    have hcr : c ≠ r := by
      intro e
      have := (List.nodup_cons.1 h.ring.nd).1
      exact this (by rw [← e, hc']; exact List.mem_map_of_mem (List.getElem_mem hlt))
    have gc := h.ring.get c (by rw [hc']; exact List.mem_cons_of_mem _ (List.mem_map_of_mem (List.getElem_mem hlt)))
    have lc := h.ring.lt c (by rw [hc']; exact List.mem_cons_of_mem _ (List.mem_map_of_mem (List.getElem_mem hlt)))
    simp only [Nd.o, Nd.l] at gc
    obtain ⟨d, hd⟩ : ∃ d, L[i + 1]? = some d := ⟨_, List.getElem?_eq_getElem (by omega)⟩
    have hnx := (path_get (i := i + 1) (a := c) (b := d) hpath (by simpa using hc) (by simpa using hd)).1
    rw [hnx] at gc
    have gc1 := Grows.at hgr lc gc
    simp -dsimp [e0, e3, e4, gt1, gr1, gc1, hcr]
    have hk1 : Grows H1 (H1.alloc (.cells .rw [.p (some (c, 0))])) := Keeps.alloc' Keeps.refl
    refine (app_row (F := Up NoId H H1) (hs3.keep hk1 fun _ _ h => h) (r := [.p (some (c, 0))]) (by simp) (by simp) (by simp <;> omega) (by simp <;> omega)).mono ?_
    rintro v4 H3 ⟨hs4, hk4⟩
    have hn := hgr.next
    have hn4 := hk4.next
    simp at hn4
    have hgr3 : Grows H H3 := (Keeps.trans hgr hk1).then hk4 fun j hj h => by rcases h with h | h <;> omega
    simp -dsimp [e0, e4, Grows.at hgr3 lc gc]
    refine hold_mk ⟨fl.length - (i + 1), by omega, i + 1, d, by omega, rfl, hd, hgr3, by simp [e0], by simp, v4, by simp, ?_⟩
    have : (fl.map ptrRow).take i ++ [[.p (some (c, 0))]] = (fl.map ptrRow).take (i + 1) := by
      rw [List.take_add_one, List.getElem?_map, List.getElem?_eq_getElem hlt, hc']; rfl
    rw [this] at hs4
    refine hs4.mono fun j hj => ?_
    rcases hj with (h | h) | h
    · exact h.elim
    · exact .inr ⟨h.1, by omega⟩
    · simp at h; exact .inr ⟨by omega, h.2⟩
  · have hil : i = fl.length := by omega
    have hcr : c = r := by
      rw [hL, List.getElem?_append_right (by simp; omega), hil] at hc
      simpa using hc.symm
    simp -dsimp [e0, e3, e4, gt1, gr1, hcr]
    rw [List.take_of_length_le (by simp <;> omega)] at hs3
    exact fin_mk ⟨_, rfl, hs3, hgr⟩
end Go.Proofs.Ytmdmabedfleacaa
