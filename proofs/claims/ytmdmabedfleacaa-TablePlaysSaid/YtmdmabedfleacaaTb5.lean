/- A part of the proof: contracts of functions, over the abstract machine. -/
import Derived.Test.YtmdmabedfleacaaTb4
set_option linter.unusedVariables false
set_option linter.unusedSimpArgs false
set_option linter.all false
namespace Go.Proofs.Ytmdmabedfleacaa
open Ram Go

variable {W0 : World} {H : AH}

/-- A flow out and in again: the table's other things. -/
theorem TR.split {tb r mp : Nat} {most ticks now last : Int} {X Y : List Fl} {gs : List (Nat × Tup)} {y : Fl} {N : Nat → Nd} {F : Nat → Prop} (h : TR H tb most ticks now last r mp (X ++ y :: Y) gs N F) :
    y.1 ∉ r :: ((X ++ Y).map (·.1)) := by
  have hnd := h.ring.nd
  simp only [List.map_append, List.map_cons] at hnd
  rw [← List.cons_append] at hnd
  obtain ⟨h1, h2, h3⟩ := List.nodup_append.1 hnd
  simp only [List.map_append, List.mem_cons, List.mem_append]
  rintro (e | e | e)
  · exact h3 y.1 (by simp [e]) y.1 (by simp) rfl
  · exact h3 y.1 (by simp only [List.mem_cons]; right; exact e) y.1 (by simp) rfl
  · exact (List.nodup_cons.1 h2).1 e

/-- (*Table).Find. -/
theorem f31 (x : Tup) {tb r mp : Nat} {most ticks now last : Int} {fl : List Fl} {gs : List (Nat × Tup)} {N : Nat → Nd} {F : Nat → Prop} (h : TR H tb most ticks now last r mp fl gs N F) : ACalls Try.prog W0 31 [.p (some (tb, 0)), .agg x.c] H fun e H' =>
    (fl.find? (fun y => same x y.2.t) = none ∧ e = .ret (.tup [.i .i64 0, .i .i64 0, .b false]) ∧ Grows H H') ∨
    ∃ X y Y, fl = X ++ y :: Y ∧ (∀ z ∈ X, same x z.2.t = false) ∧ fl.find? (fun y => same x y.2.t) = some y ∧ e = .ret (.tup [.i .i64 y.2.id, .i .i64 (sameDir x y.2.t), .b true]) ∧
      ∃ N', TR H' tb most ticks now last r mp (X ++ Y ++ [(y.1, { y.2 with at_ := now })]) gs N' F ∧ Keeps F H H' := by
  obtain ⟨o1, o2, o3, o4⟩ := h.own
  have ltb := h.lt _ o1
  refine acalls_in k31 (by simp) ?_
  have hk1 : Grows H (H.alloc (.cells .rw x.c)) := Keeps.alloc' Keeps.refl
  simp -dsimp
  refine (f57 x (h.keep hk1 fun _ _ h => h)).next ?_
  rintro H2 g2
  have g12 : Grows H H2 := Keeps.trans hk1 g2
  have h2 := h.keep g12 fun _ _ h => h
  have gx : H2.get H.next = some (.cells .rw x.c) := Grows.at g2 (by simp <;> omega) (by simp)
  have lx : H.next < H2.next := Nat.lt_of_lt_of_le (by simp <;> omega) g2.next
  cases hf : fl.find? (fun y => same x y.2.t) with
  | none =>
    simp -dsimp
    exact fin_mk (.inl ⟨rfl, rfl, g12⟩)
  | some y =>
    obtain ⟨hys, X, Y, rfl, hno⟩ := List.find?_eq_some_iff_append.1 hf
    have hyn := h2.split
    simp -dsimp
    have hring := h2.ring
    rw [List.map_append, List.map_cons] at hring
    refine (f58 hring).next ?_
    rintro H3 ⟨N3, r3, n3, gy3, k3, e3⟩
    rw [← List.map_append] at r3 k3
    have hsub : ∀ i, i ∈ r :: ((X ++ Y).map (·.1)) → F i := by
      intro i hi
      rcases List.mem_cons.1 hi with e | e
      · rw [e]; exact o2
      · obtain ⟨z, hz, rfl⟩ := List.mem_map.1 e
        refine o4 z ?_
        simp only [List.mem_append, List.mem_cons] at hz ⊢
        rcases hz with h | h
        · exact .inl h
        · exact .inr (.inr h)
    have hap : ∀ z ∈ X ++ Y, z.1 ≠ tb ∧ z.1 ≠ mp := by
      intro z hz
      refine h.apart.2.2.2 z ?_
      simp only [List.mem_append, List.mem_cons] at hz ⊢
      rcases hz with h | h
      · exact .inl h
      · exact .inr (.inr h)
    have htb : tb ∉ r :: ((X ++ Y).map (·.1)) := by
      intro hi
      rcases List.mem_cons.1 hi with e | e
      · exact h.apart.1 e
      · obtain ⟨z, hz, e'⟩ := List.mem_map.1 e
        exact (hap z hz).1 e'
    have hmp : mp ∉ r :: ((X ++ Y).map (·.1)) := by
      intro hi
      rcases List.mem_cons.1 hi with e | e
      · exact h.apart.2.2.1 e
      · obtain ⟨z, hz, e'⟩ := List.mem_map.1 e
        exact (hap z hz).2 e'
    have gt3 := k3.at (h2.lt _ o1) htb h2.tab
    have gx3 := k3.at lx (fun hi => by have := h.lt _ (hsub _ hi); omega) gx
    simp -dsimp
    refine (f46 (c := N y.1) (rest := [.p (some ((N y.1).pv, 0)), .p (some ((N y.1).nx, 0))]) gt3 r3 hyn ?_ ?_ gy3 ⟨_, _, rfl⟩).next ?_
    · rw [e3]; exact h2.lt _ (o4 y (by simp))
    · exact fun e => (h.apart.2.2.2 y (by simp)).1 e.symm
    rintro H4 ⟨N4, r4, n4, n4t, n4i, n4a, k4, e4⟩
    have hy := h.node y (by simp)
    rw [hy.1] at n4t
    rw [hy.2.1] at n4i
    have gx4 := k4.at (i := H.next) (by omega) (fun hi => by
      have : F H.next := by
        rw [← List.cons_append] at hi
        rcases List.mem_append.1 hi with hi | hi
        · exact hsub _ hi
        · simp only [List.mem_singleton] at hi; rw [hi]; exact o4 y (by simp)
      have := h.lt _ this; omega) gx3
    have gy4 := r4.get y.1 (by simp)
    simp only [Nd.o, Nd.l, n4t, n4i, n4a] at gy4
    simp -dsimp [ldCells_of gx4, ldCells_of gy4]
    refine (f59 x y.2.t).next ?_
    rintro H5 g5
    simp -dsimp [Grows.at g5 (r4.lt y.1 (by simp)) gy4]
    refine fin_mk (.inr ⟨X, y, Y, rfl, fun z hz => by simpa using hno z hz, rfl, rfl, N4, TR.keep (H := H4) (G := NoId) ⟨⟨o1, o2, o3, ?_⟩, ?_, ⟨h.apart.1, h.apart.2.1, h.apart.2.2.1, ?_⟩, ?_, ?_, ?_, ?_, ?_, ?_⟩ g5 (fun _ _ h => h), ?_⟩)
    · intro z hz
      simp only [List.mem_append, List.mem_singleton] at hz
      rcases hz with (hz | hz) | hz
      · exact o4 z (by simp [hz])
      · exact o4 z (by simp [hz])
      · rw [hz]; exact o4 y (by simp)
    · intro i hi
      rw [e4, e3]; exact h2.lt i hi
    · intro z hz
      rcases List.mem_append.1 hz with hz | hz
      · exact hap z hz
      · simp only [List.mem_singleton] at hz; rw [hz]; exact h.apart.2.2.2 y (by simp)
    · refine k4.at (by rw [e3]; exact h2.lt _ o1) (fun hi => ?_) gt3
      rw [← List.cons_append] at hi
      rcases List.mem_append.1 hi with hi | hi
      · exact htb hi
      · simp only [List.mem_singleton] at hi; exact (h.apart.2.2.2 y (by simp)).1 hi.symm
    · simpa using r4
    · intro z hz
      rcases List.mem_append.1 hz with hz | hz
      · have hzm : z.1 ∈ r :: (X ++ Y).map (·.1) := List.mem_cons_of_mem _ (List.mem_map_of_mem hz)
        have hz' : z ∈ X ++ y :: Y := by
          simp only [List.mem_append, List.mem_cons] at hz ⊢
          rcases hz with h | h
          · exact .inl h
          · exact .inr (.inr h)
        obtain ⟨q1, q2, q3⟩ := n4 z.1 hzm
        obtain ⟨p1, p2, p3⟩ := n3 z.1
        obtain ⟨s1, s2, s3⟩ := h.node z hz'
        exact ⟨by rw [q1, p1, s1], by rw [q2, p2, s2], by rw [q3, p3, s3]⟩
      · simp only [List.mem_singleton] at hz; rw [hz]; exact ⟨n4t, n4i, n4a⟩
    · refine k4.at (by rw [e3]; exact h2.lt _ o3) (fun hi => ?_) (k3.at (h2.lt _ o3) hmp h2.map)
      rw [← List.cons_append] at hi
      rcases List.mem_append.1 hi with hi | hi
      · exact hmp hi
      · simp only [List.mem_singleton] at hi; exact (h.apart.2.2.2 y (by simp)).2 hi.symm
    · refine h.perm.trans ?_
      simp only [List.map_append, List.map_cons, List.map_nil, List.append_assoc]
      exact List.Perm.append_left _ (List.perm_append_comm (l₁ := [key y]) (l₂ := Y.map key))
    · have hu := h.uniq
      rw [List.pairwise_append, List.pairwise_cons] at hu
      obtain ⟨u1, ⟨u2, u3⟩, u4⟩ := hu
      rw [List.pairwise_append, List.pairwise_append]
      refine ⟨⟨u1, u3, fun a ha b hb => u4 a ha b (by simp [hb])⟩, by simp, fun a ha b hb => ?_⟩
      simp only [List.mem_singleton] at hb
      rw [hb]
      rcases List.mem_append.1 ha with ha | ha
      · exact u4 a ha y (by simp)
      · rw [same_comm]; exact u2 a ha
    · refine Keeps.trans (Keeps.trans (Grows.keeps g12) (k3.mono fun i _ hi => hsub i hi)) (Keeps.trans (k4.mono fun i _ hi => ?_) (Grows.keeps g5))
      rw [← List.cons_append] at hi
      rcases List.mem_append.1 hi with hi | hi
      · exact hsub i hi
      · simp only [List.mem_singleton] at hi; rw [hi]; exact o4 y (by simp)
end Go.Proofs.Ytmdmabedfleacaa
